/- What the reference's block of SHA-256 returns: the state behind one more block. -/
import Derived.Test.YtbmjjmianhjfiaaDoorRefSha
namespace Go.Proofs.YtbmjjmianhjfiaaDoor
open Go.RowKit

/-- Memory in the reference's block. -/
structure In47 (w0 : World) (S M : List (BitVec 32)) (w : World) : Prop where
  s : Words w w0.heap.size 57 S
  z : Blk w (w0.heap.size + 1) 57 (List.replicate 8 (.int .u32 0))
  m : Words w (w0.heap.size + 2) 71 M
  old : Below w0.heap.size w0 w
section
variable {w0 w w' : World} {S M : List (BitVec 32)}
theorem In47.set (h : In47 w0 S M w) (i : Nat) (x : BitVec 32) : In47 w0 S (M.set i x) (w.setCell ⟨w0.heap.size + 2, i, none⟩ (.int .u32 (U x))) :=
  ⟨Blk.far h.s (by simp) _, h.z.far (by simp) _, h.m.set i x, h.old.setCell (p := ⟨w0.heap.size + 2, i, none⟩) (by simp) _⟩
theorem In47.drewN (h : In47 w0 S M w) (n : Nat) : In47 w0 S M (w.drewN n) := ⟨h.s, h.z, h.m, below_drewN h.old n⟩
theorem In47.kept (h : In47 w0 S M w) (hb : Below w.heap.size w w') : In47 w0 S M w' := ⟨Blk.kept h.s hb, h.z.kept hb, Blk.kept h.m hb, h.old.trans (hb.mono h.old.size)⟩
end
theorem slice_mid (A : Option Addr) (n c l h : Nat) (hlh : l ≤ h) (hn : h ≤ n) (hc : n ≤ c) (hl : l < c) (li hi : Int) (el : li = (l : Int)) (eh : hi = (h : Int)) (w : World) :
    (Instr.slice 26 (.slice A n c) (some (.int .i64 li)) (some (.int .i64 hi)) none).run Tryd.prog w = .ok (.slice (A.map (·.add l)) (h - l) (c - l)) w := by
  have e2 : Tryd.prog.elem 26 = 5 := by simp [Program.elem, Tryd.underlying26]
  have h1 := run_slice_lh (P := Tryd.prog) w 26 A n c (by rw [e2]; exact Tryd.underlying26) .i64 .i64 li hi (by omega) (by omega) (by omega)
  rw [h1, e2]
  obtain ⟨i, hi', hz, hs, hb⟩ := info_parts info5
  subst el; subst eh
  have hne : ¬ c = l := by omega
  simp [sizeOf, typeInfo, hi', hs, sliced, hne]
theorem U_sh3 (x : BitVec 32) : U x / (8 : Int) = U (x >>> 3) := U_shr x 3
theorem U_sh10 (x : BitVec 32) : U x / (1024 : Int) = U (x >>> 10) := U_shr x 10
theorem ror49q (x : BitVec 32) (k : Int) (s : Nat) (hs : s < 32) (hk : k = (s : Int)) (w : World) :
    Calls Tryd.prog 49 #[.int .u32 (U x), .int .i64 k] w fun e w' => e = .returned (.int .u32 (U (rol x (32 - s)))) ∧ ∃ m, w' = w.drewN m := ror49 x k s w hs hk

theorem quiet_add {P : Program} {f : FuncId} {args : Array Value} {w : World} {a n : Nat} {v : Value}
    (h : Calls P f args (w.drewN (a + n)) fun e w' => e = .returned v ∧ ∃ m, w' = (w.drewN (a + n)).drewN m) :
    Calls P f args (w.drewN (a + n)) fun e w'' => e = .returned v ∧ ∃ m, w'' = w.drewN (a + m) :=
  h.mono fun _ _ ⟨he, m, hm⟩ => ⟨he, n + m, by rw [hm, World.drewN_drewN, Nat.add_assoc]⟩
theorem U_not' (x : BitVec 32) : bits .xor .u32 (if IntKind.u32.signed = true then -1 else IntKind.u32.max) (U x) = U (~~~x) := by
  have h := U_xor 4294967295#32 x
  rw [show (if IntKind.u32.signed = true then (-1 : Int) else IntKind.u32.max) = U 4294967295#32 from rfl, h]
  exact congrArg U (by rw [show (4294967295#32 : BitVec 32) = BitVec.allOnes 32 from rfl]; exact BitVec.allOnes_xor)
theorem list8 (S : List (BitVec 32)) (h : S.length = 8) : S = [S.getD 0 0, S.getD 1 0, S.getD 2 0, S.getD 3 0, S.getD 4 0, S.getD 5 0, S.getD 6 0, S.getD 7 0] := by
  rcases S with _ | ⟨a, _ | ⟨b, _ | ⟨c, _ | ⟨d, _ | ⟨e, _ | ⟨f, _ | ⟨g, _ | ⟨i, _ | ⟨j, S⟩⟩⟩⟩⟩⟩⟩⟩⟩ <;> simp at h ⊢
theorem sum8 (S : List (BitVec 32)) (hS : S.length = 8) (va vb vc vd ve vf vg vh : BitVec 32) :
    sumTo S [va, vb, vc, vd, ve, vf, vg, vh] 8 = [S.getD 0 0 + va, S.getD 1 0 + vb, S.getD 2 0 + vc, S.getD 3 0 + vd, S.getD 4 0 + ve, S.getD 5 0 + vf, S.getD 6 0 + vg, S.getD 7 0 + vh] := by
  rcases S with _ | ⟨a, _ | ⟨b, _ | ⟨c, _ | ⟨d, _ | ⟨e, _ | ⟨f, _ | ⟨g, _ | ⟨i, _ | ⟨j, S⟩⟩⟩⟩⟩⟩⟩⟩⟩ <;> simp at hS
  rfl
theorem ch_eq (e f g : BitVec 32) : (e &&& f) ^^^ (~~~e &&& g) = g ^^^ e &&& (f ^^^ g) := by
  apply BitVec.eq_of_getLsbD_eq
  intro i hi
  simp only [BitVec.getLsbD_xor, BitVec.getLsbD_and, BitVec.getLsbD_not, hi, decide_true, Bool.true_and]
  cases e.getLsbD i <;> cases f.getLsbD i <;> cases g.getLsbD i <;> rfl
theorem maj_eq (a b c : BitVec 32) : (a &&& b) ^^^ (a &&& c) ^^^ (b &&& c) = a &&& b ||| c &&& (a ||| b) := by
  apply BitVec.eq_of_getLsbD_eq
  intro i _
  simp only [BitVec.getLsbD_xor, BitVec.getLsbD_and, BitVec.getLsbD_or]
  cases a.getLsbD i <;> cases b.getLsbD i <;> cases c.getLsbD i <;> rfl

set_option maxRecDepth 100000 in
set_option maxHeartbeats 4000000 in
theorem block47 (S : List (BitVec 32)) (hS : S.length = 8) (b off c : Nat) (bs : List (BitVec 8)) (hc : 64 ≤ c) (w : World)
    (hr : ∀ i, i < 64 → w.cell? ⟨b, off + i, none⟩ = some (.int .u8 (B (bs.getD i 0)))) :
    Calls Tryd.prog 47 #[.agg (S.map W).toArray, .slice (some ⟨b, off, none⟩) 64 c] w fun e w' => e = .returned (.agg ((absS S bs).map W).toArray) ∧ Below w.heap.size w w' := by
  have hz2 : Blk (((w.alloc (.cells (S.map W).toArray 57)).alloc (.cells (List.replicate 8 (Value.int .u32 0)).toArray 57)).alloc (.cells (List.replicate 64 (Value.int .u32 0)).toArray 71)) (w.heap.size + 2) 71 (List.replicate 64 (Value.int .u32 0)) := by
    simpa using Blk.new ((w.alloc (.cells (S.map W).toArray 57)).alloc (.cells (List.replicate 8 (Value.int .u32 0)).toArray 57)) 71 (List.replicate 64 (Value.int .u32 0))
  have hz1 : Blk ((w.alloc (.cells (S.map W).toArray 57)).alloc (.cells (List.replicate 8 (Value.int .u32 0)).toArray 57)) (w.heap.size + 1) 57 (List.replicate 8 (Value.int .u32 0)) := by
    simpa using Blk.new (w.alloc (.cells (S.map W).toArray 57)) 57 (List.replicate 8 (Value.int .u32 0))
  have HZ2 := Lib.hid hz2
  have HSS := Lib.hid (show (Tryd.prog.info? 71).map (·.size) = some (List.replicate 64 (Value.int .u32 0)).toArray.size by kernel_rfl)
  have HSA := Lib.hid (show (List.replicate 64 (Value.int .u32 0)).toArray.all (·.oneCell') = true by kernel_rfl)
  have HI := Lib.hid (show In47 w S (List.replicate 64 0#32) ((((w.alloc (.cells (S.map W).toArray 57)).alloc (.cells (List.replicate 8 (Value.int .u32 0)).toArray 57)).alloc (.cells (List.replicate 64 (Value.int .u32 0)).toArray 71)).setRow (w.heap.size + 2) (List.replicate 64 (Value.int .u32 0)).toArray) from
    ⟨(setRow_other _ _ _ _ (by omega)).trans (((Blk.new w 57 (S.map W)).alloc _).alloc _), (setRow_other _ _ _ _ (by omega)).trans (hz1.alloc _), setRow_heap _ (w.heap.size + 2) _ _ 71 _ hz2,
      below_setRow ((((Below.refl _ w).alloc (Nat.le_refl _) _).alloc (by simp) _).alloc (by simp; omega) _) (by omega) _⟩)
  have HR := Lib.hid hr
  have HS := Lib.hid hS
  have c0 : ¬ c = 0 := by omega
  have c1 : (64 : Int) ≤ (c : Int) := by omega
  clear hz2 hz1 hr hS
  go_enter Tryd.func47, Tryd.ntmps47
  go_wp2_with ((with_reducible refine at_store 71 ?_); (refine wpList_store_row rfl 71 _ _ rfl (w.heap.size + 2) _ rfl rfl 71 _ HZ2.out HSS.out rfl HSA.out ?_); refine forget_wpl (In47 w S (List.replicate 64 0#32)) HI.out ?_; intro w1 h47)
  have hadd := U_add
  have hxor := U_xor
  have hand := U_and
  go_loopw [6] (fun i wr => ∃ k : Nat, k ≤ 16 ∧ i = .int .i64 k ∧ In47 w S (ldS bs k) wr) (fun i _ => 16 - (intOf i).toNat)
  case atStart => exact ⟨0, by omega, rfl, h47⟩
  case round =>
    obtain ⟨k, hk, rfl, hm⟩ := hrel
    by_cases hlt : k < 16
    · have l0 := length_ldS bs k
      have q := fun i (hi : i < 64) => (hm.old.cell (p := ⟨b, off + i, none⟩) (block_lt_of_cell (HR.out i hi))).trans (HR.out i hi)
      have q0 := q (4 * k) (by omega)
      have q1 := q (4 * k + 1) (by omega)
      have q2 := q (4 * k + 2) (by omega)
      have q3 := q (4 * k + 3) (by omega)
      rw [show off + (4 * k + 1) = off + 4 * k + 1 by omega] at q1
      rw [show off + (4 * k + 2) = off + 4 * k + 2 by omega] at q2
      rw [show off + (4 * k + 3) = off + 4 * k + 3 by omega] at q3
      have t4 := toNat4 k
      have a1 : (0 : Int) ≤ 4 * (k : Int) := by omega
      have a2 : 4 * (k : Int) ≤ 64 := by omega
      have a6 : (k : Int) < 16 := by omega
      have a7 : 4 * (k : Int) + 4 ≤ 64 := by omega
      have cc := hm.m.at k (by omega)
      have cf := hm.m.free k
      have hsl := slice_mid (some ⟨b, off, none⟩) 64 c (4 * k) (4 * k + 4) (by omega) (by omega) hc (by omega) (4 * (k : Int)) (4 * (k : Int) + 4) (by omega) (by omega)
      rw [show 4 * k + 4 - 4 * k = 4 by omega, show (some (⟨b, off, none⟩ : Addr)).map (·.add (4 * k)) = some ⟨b, off + 4 * k, none⟩ by simp only [Option.map_some]; unfold Addr.add; split <;> simp_all] at hsl
      have HM := Lib.hid hm
      clear l0 q hm
      go_wp2_with (go_at_call 48; refine (word48 _ _ _ _ _ _ _ _ _ (by omega) q0 q1 q2 q3).mono ?_; rintro e w' ⟨rfl, m, rfl⟩)
      exact ⟨⟨k + 1, by omega, by go_num, (HM.out.drewN m).set k _⟩, by simp [intOf]; omega⟩
    · obtain rfl : k = 16 := by omega
      rw [show ((16 : Nat) : Int) = 16 from rfl]
      have HM := Lib.hid hm
      clear hm hk hlt
      go_wp2
      go_loopw [7] (fun i wr => ∃ k : Nat, k ≤ 48 ∧ i = .int .i64 ((k : Int) + 16) ∧ In47 w S (extS (ldS bs 16) k) wr) (fun i _ => 64 - (intOf i).toNat)
      case atStart => exact ⟨0, by omega, rfl, HM.out⟩
      case round =>
        obtain ⟨k, hk, hi0, hm⟩ := hrel
        subst hi0
        obtain ⟨t, ht⟩ : ∃ t : Nat, t = 16 + k := ⟨_, rfl⟩
        rw [show (k : Int) + 16 = (t : Int) by omega]
        have lE : (extS (ldS bs 16) k).length = 64 := by rw [length_extS, length_ldS]
        by_cases hlt : k < 48
        · obtain ⟨E, hE⟩ : ∃ E, E = extS (ldS bs 16) k := ⟨_, rfl⟩
          rw [← hE] at hm lE
          obtain ⟨x, hx⟩ : ∃ x, x = E.getD (t - 15) 0 := ⟨_, rfl⟩
          obtain ⟨y, hy⟩ : ∃ y, y = E.getD (t - 2) 0 := ⟨_, rfl⟩
          obtain ⟨z, hz⟩ : ∃ z, z = E.getD (t - 16) 0 := ⟨_, rfl⟩
          obtain ⟨u, hu⟩ : ∃ u, u = E.getD (t - 7) 0 := ⟨_, rfl⟩
          have cx := hm.m.at (t - 15) (by omega)
          have cy := hm.m.at (t - 2) (by omega)
          have cz := hm.m.at (t - 16) (by omega)
          have cu := hm.m.at (t - 7) (by omega)
          rw [← hx] at cx; rw [← hy] at cy; rw [← hz] at cz; rw [← hu] at cu
          have cw := hm.m.at t (by omega)
          have cf := hm.m.free t
          have HX := Lib.hid (⟨hE, hx, hy, hz, hu, ht⟩ : _ ∧ _ ∧ _ ∧ _ ∧ _ ∧ _)
          have HM := Lib.hid hm
          have b1 : (t : Int) < 64 := by omega
          have b2 : (16 : Int) ≤ (t : Int) := by omega
          have w15 : IntKind.i64.wrap ((t : Int) - 15) = (t : Int) - 15 := by rw [IntKind.wrap_i64]; omega
          have w2' : IntKind.i64.wrap ((t : Int) - 2) = (t : Int) - 2 := by rw [IntKind.wrap_i64]; omega
          have w16 : IntKind.i64.wrap ((t : Int) - 16) = (t : Int) - 16 := by rw [IntKind.wrap_i64]; omega
          have w7 : IntKind.i64.wrap ((t : Int) - 7) = (t : Int) - 7 := by rw [IntKind.wrap_i64]; omega
          have n15 : ((t : Int) - 15).toNat = t - 15 := by omega
          have n2 : ((t : Int) - 2).toNat = t - 2 := by omega
          have n16 : ((t : Int) - 16).toNat = t - 16 := by omega
          have n7 : ((t : Int) - 7).toNat = t - 7 := by omega
          have p15 : (0 : Int) ≤ (t : Int) - 15 := by omega
          have p2 : (0 : Int) ≤ (t : Int) - 2 := by omega
          have p16 : (0 : Int) ≤ (t : Int) - 16 := by omega
          have p7 : (0 : Int) ≤ (t : Int) - 7 := by omega
          have l15 : (t : Int) - 15 < 64 := by omega
          have l2 : (t : Int) - 2 < 64 := by omega
          have l16 : (t : Int) - 16 < 64 := by omega
          have l7 : (t : Int) - 7 < 64 := by omega
          have s15 : (15 : Int) ≤ (t : Int) := by omega
          have s2 : (2 : Int) ≤ (t : Int) := by omega
          have s7 : (7 : Int) ≤ (t : Int) := by omega
          have sh3 := U_sh3
          have sh10 := U_sh10
          clear hm hE hx hy hz hu ht lE hk hlt
          go_wp2
          refine wp_region_quiet_tail 29 (by kernel_rfl) (by kernel_rfl) ?_
          simp only [List.take_succ_cons, List.take_zero, List.drop_succ_cons, List.drop_zero]
          have R1 := Lib.hid (ror49q x 7 7 (by decide) rfl)
          have R2 := Lib.hid (ror49q x 18 18 (by decide) rfl)
          have R3 := Lib.hid (ror49q y 17 17 (by decide) rfl)
          have R4 := Lib.hid (ror49q y 19 19 (by decide) rfl)
          repeat (quiet_step ((go_at_call 49; first | with_reducible exact Calls.quiet_of (R1.out _) | with_reducible exact Calls.quiet_of (R2.out _) | with_reducible exact Calls.quiet_of (R3.out _) | with_reducible exact Calls.quiet_of (R4.out _))))
          refine wpQuiet_nil ?_
          rintro _ ⟨nq, rfl⟩
          go_wp2
          obtain ⟨hE, hx, hy, hz, hu, ht⟩ := HX.out
          have hset := (HM.out.drewN nq).set t (z + (rol x 25 ^^^ rol x 14 ^^^ x >>> 3) + u + (rol y 15 ^^^ rol y 13 ^^^ y >>> 10))
          have e : extS (ldS bs 16) (k + 1) = E.set t (z + (rol x 25 ^^^ rol x 14 ^^^ x >>> 3) + u + (rol y 15 ^^^ rol y 13 ^^^ y >>> 10)) := by
            show (extS (ldS bs 16) k).set (16 + k) (extW (extS (ldS bs 16) k) (16 + k)) = _
            rw [← hE, ← ht]
            unfold extW
            rw [← hx, ← hy, ← hz, ← hu]
          refine ⟨⟨k + 1, by omega, by congr 1; omega, ?_⟩, by simp [intOf]; omega⟩
          rw [e]
          exact hset
        · obtain rfl : k = 48 := by omega
          obtain rfl : t = 64 := by omega
          rw [show ((64 : Nat) : Int) = 64 from rfl]
          obtain ⟨M, hM⟩ : ∃ M, M = extS (ldS bs 16) 48 := ⟨_, rfl⟩
          rw [← hM] at hm lE
          have HMM := Lib.hid (⟨hM, lE⟩ : _ ∧ _)
          have HM := Lib.hid hm
          have HN := Lib.hid (numbers50 wr)
          have HSN := Lib.hid (show (Tryd.prog.info? 71).map (·.size) = some (numbersS.map W).toArray.size by kernel_rfl)
          have HLN := Lib.hid (show (List.replicate 64 (Value.int .u32 0)).toArray.size = (numbersS.map W).toArray.size by kernel_rfl)
          have HAN := Lib.hid (W_all numbersS)
          clear hM lE hm hk hlt ht
          go_wp2_with (first
            | (go_at_call 50; (with_reducible refine HN.out.mono ?_); rintro e w5 ⟨rfl, hb5⟩; have HM5 := Lib.hid (HM.out.kept hb5); have HZN := Lib.hid (Blk.new w5 71 (List.replicate 64 (Value.int .u32 0))); clear hb5)
            | ((with_reducible refine at_store 71 ?_); (refine wpList_store_row rfl 71 _ _ rfl w5.heap.size _ rfl rfl 71 _ HZN.out HSN.out HLN.out HAN.out ?_); refine forget_wpl (fun w6 => In47 w S M w6 ∧ Words w6 w5.heap.size 71 numbersS) ⟨⟨(setRow_other _ _ _ _ (by have := Blk.lt HM5.out.s; omega)).trans (Blk.alloc HM5.out.s _), (setRow_other _ _ _ _ (by have := HM5.out.z.lt; omega)).trans (HM5.out.z.alloc _), (setRow_other _ _ _ _ (by have := Blk.lt HM5.out.m; omega)).trans (Blk.alloc HM5.out.m _), below_setRow (HM5.out.old.alloc HM5.out.old.size _) (by have := HM5.out.old.size; omega) _⟩, setRow_heap _ _ _ _ 71 _ HZN.out⟩ ?_; rintro w6 ⟨h6, hN6⟩))
          have H6 := Lib.hid h6
          have HN6 := Lib.hid hN6
          have HSL := HS.out
          have d0 := Words.at h6.s 0 (by omega)
          have d1 := Words.at h6.s 1 (by omega)
          have d2 := Words.at h6.s 2 (by omega)
          have d3 := Words.at h6.s 3 (by omega)
          have d4 := Words.at h6.s 4 (by omega)
          have d5 := Words.at h6.s 5 (by omega)
          have d6 := Words.at h6.s 6 (by omega)
          have d7 := Words.at h6.s 7 (by omega)
          clear h6 hN6 HSL
          generalize w5.heap.size = gN at *
          go_quiet (fail)
          go_wp2
          go_loopw [11, 12, 13, 14, 15, 16, 17, 18, 19] (fun a b c d e f g h i wr => ∃ (k q : Nat) (va vb vc vd ve vf vg vh : BitVec 32), k ≤ 64 ∧ i = .int .i64 k ∧ roundsH numbersS M S k = [va, vb, vc, vd, ve, vf, vg, vh] ∧ (a = .int .u32 (U va) ∧ b = .int .u32 (U vb) ∧ c = .int .u32 (U vc) ∧ d = .int .u32 (U vd) ∧ e = .int .u32 (U ve) ∧ f = .int .u32 (U vf) ∧ g = .int .u32 (U vg) ∧ h = .int .u32 (U vh)) ∧ wr = w6.drewN q) (fun _ _ _ _ _ _ _ _ i _ => 64 - (intOf i).toNat)
          case atStart => exact ⟨0, nq, _, _, _, _, _, _, _, _, by omega, rfl, list8 S HS.out, ⟨rfl, rfl, rfl, rfl, rfl, rfl, rfl, rfl⟩, rfl⟩
          case round =>
            obtain ⟨k, q, va, vb, vc, vd, ve, vf, vg, vh, hk, rfl, hV, ⟨rfl, rfl, rfl, rfl, rfl, rfl, rfl, rfl⟩, rfl⟩ := hrel
            have HV := Lib.hid hV
            clear hV
            by_cases hlt : k < 64
            · obtain ⟨kt, hkt⟩ : ∃ kt, kt = numbersS.getD k 0 := ⟨_, rfl⟩
              obtain ⟨mt, hmt⟩ : ∃ mt, mt = M.getD k 0 := ⟨_, rfl⟩
              have ck := Words.at HN6.out k (show k < numbersS.length from hlt)
              have cm := Words.at H6.out.m k (by rw [HMM.out.2]; exact hlt)
              rw [← hkt] at ck; rw [← hmt] at cm
              have HKT := Lib.hid (⟨hkt, hmt⟩ : _ ∧ _)
              have b1 : (k : Int) < 64 := by omega
              clear hkt hmt d0 d1 d2 d3 d4 d5 d6 d7
              have R1 := Lib.hid (ror49q ve 6 6 (by decide) rfl)
              have R2 := Lib.hid (ror49q ve 11 11 (by decide) rfl)
              have R3 := Lib.hid (ror49q ve 25 25 (by decide) rfl)
              have R4 := Lib.hid (ror49q va 2 2 (by decide) rfl)
              have R5 := Lib.hid (ror49q va 13 13 (by decide) rfl)
              have R6 := Lib.hid (ror49q va 22 22 (by decide) rfl)
              have hnot : ∀ x : BitVec 32, bits .xor .u32 (if IntKind.u32.signed = true then -1 else IntKind.u32.max) (U x) = U (~~~x) := fun x => U_not' x
              have hwr : ∀ x y : BitVec 32, IntKind.u32.wrap (U x + U y) = U (x + y) := fun x y => by rw [IntKind.wrap_u32]; exact U_add x y
              go_wp2
              refine wp_region_quiet_lit (by kernel_rfl) (by kernel_rfl) ?_
              repeat (quiet_step ((go_at_call 49; first | with_reducible exact quiet_add (R1.out _) | with_reducible exact quiet_add (R2.out _) | with_reducible exact quiet_add (R3.out _))))
              refine wpQuiet_nil ?_
              rintro _ ⟨nq2, rfl⟩
              rw [ch_eq]
              obtain ⟨p, hp⟩ : ∃ p, p = pS kt mt [va, vb, vc, vd, ve, vf, vg, vh] := ⟨_, rfl⟩
              rw [show vh + (rol ve 26 ^^^ rol ve 21 ^^^ rol ve 7) + (vg ^^^ ve &&& (vf ^^^ vg)) + kt + mt = p from hp.symm]
              have HP := Lib.hid hp
              clear hp hwr hnot ck cm
              go_wp2_with (first
                | (go_at_call 49; (with_reducible refine (R4.out _).mono ?_); rintro e w' ⟨rfl, m1, rfl⟩)
                | (go_at_call 49; (with_reducible refine (R5.out _).mono ?_); rintro e w' ⟨rfl, m2, rfl⟩)
                | (go_at_call 49; (with_reducible refine (R6.out _).mono ?_); rintro e w' ⟨rfl, m3, rfl⟩))
              refine ⟨⟨k + 1, _, p + qS [va, vb, vc, vd, ve, vf, vg, vh], va, vb, vc, vd + p, ve, vf, vg, by omega, by go_num, ?_, ⟨?_, rfl, rfl, rfl, congrArg (Value.int .u32) (U_add _ _), rfl, rfl, rfl⟩, rfl⟩, by simp [intOf]; omega⟩
              · show stepS (numbersS.getD k 0) (M.getD k 0) (roundsH numbersS M S k) = _
                rw [HV.out, ← HKT.out.1, ← HKT.out.2, HP.out]
                rfl
              · rw [maj_eq]
                exact congrArg (Value.int .u32) (U_add _ _)
            · obtain rfl : k = 64 := by omega
              rw [show ((64 : Nat) : Int) = 64 from rfl]
              have HE : Hid (absS S bs = [S.getD 0 0 + va, S.getD 1 0 + vb, S.getD 2 0 + vc, S.getD 3 0 + vd, S.getD 4 0 + ve, S.getD 5 0 + vf, S.getD 6 0 + vg, S.getD 7 0 + vh]) := by
                show sumTo S (roundsH numbersS (extS (ldS bs 16) 48) S 64) 8 = _
                rw [← HMM.out.1, HV.out]
                exact sum8 S HS.out _ _ _ _ _ _ _ _
              have HZ1 := Lib.hid (H6.out.drewN q).z
              have HO1 := Lib.hid (H6.out.drewN q).old
              have HS57 := Lib.hid (show (Tryd.prog.info? 57).map (·.size) = some (([S.getD 0 0 + va, S.getD 1 0 + vb, S.getD 2 0 + vc, S.getD 3 0 + vd, S.getD 4 0 + ve, S.getD 5 0 + vf, S.getD 6 0 + vg, S.getD 7 0 + vh] : List (BitVec 32)).map W).toArray.size by kernel_rfl)
              have HA57 := Lib.hid (W_all [S.getD 0 0 + va, S.getD 1 0 + vb, S.getD 2 0 + vc, S.getD 3 0 + vd, S.getD 4 0 + ve, S.getD 5 0 + vf, S.getD 6 0 + vg, S.getD 7 0 + vh])
              clear hlt hk
              go_wp2_with ((with_reducible refine at_store 57 ?_); refine wpList_store_row rfl 57 _ _ rfl (w.heap.size + 1) (([S.getD 0 0 + va, S.getD 1 0 + vb, S.getD 2 0 + vc, S.getD 3 0 + vd, S.getD 4 0 + ve, S.getD 5 0 + vf, S.getD 6 0 + vg, S.getD 7 0 + vh] : List (BitVec 32)).map W).toArray rfl rfl 57 _ HZ1.out HS57.out rfl HA57.out ?_)
              refine bodyPost_ret (results_cell_row rfl _ _ (w.heap.size + 1) 57 _ (0, 0) _ rfl (setRow_heap _ (w.heap.size + 1) _ _ 57 _ HZ1.out) Tryd.underlying57 rfl HS57.out) rfl ?_
              refine ⟨?_, below_setRow HO1.out (by omega) _⟩
              rw [HE.out]
end Go.Proofs.YtbmjjmianhjfiaaDoor
