/- Grow and Concat at bytes. -/
import Derived.Test.YtbmjjmianhjfiaaDoorMem
import Derived.Lib.AppendZeros
namespace Go.Proofs.YtbmjjmianhjfiaaDoor
open Go.RowKit

theorem Own.zero {w : World} {base cap : Nat} (cs : Array Value) (hb : base ≤ w.heap.size) (hc : cap ≤ maxLen) (hs : cs.size = cap) : Own (w.alloc (.cells cs 5)) base (.slice (some ⟨w.heap.size, 0, none⟩) 0 cap) [] :=
  ⟨rfl, .inr ⟨w.heap.size, cap, cs, rfl, hb, heap_alloc_new w _, by simp, hc, by simp [hs], by simp⟩⟩

set_option maxHeartbeats 1000000 in
theorem grow33 (n : Nat) (h0 : 0 < n) (hn : n ≤ 70368744177664) (w : World) :
    Calls Tryd.prog 33 #[.slice none 0 0, .int .i64 n] w fun e w' => ∃ v, e = .returned v ∧ Own w' w.heap.size v [] ∧ Below w.heap.size w w' := by
  obtain ⟨i, hi, hz, hs, hb⟩ := info_parts info5
  have hrun := fun ty => Lib.run_append_nil_zeros (P := Tryd.prog) w 26 3 ty 5 i _ .i64 .i64 Tryd.underlying26 Tryd.underlying3 hi hz n h0 (by omega) (by omega) (by rw [hb]; omega)
  have g1 := grownCap_ge (w := w) n 0 5
  have g2 := grownCap_le_maxLen w n 0 5 (by unfold maxLen; omega)
  obtain ⟨G, hG⟩ : ∃ G, G = grownCap w n 0 5 := ⟨_, rfl⟩
  rw [← hG] at hrun g1 g2
  obtain ⟨cs, hcs⟩ : ∃ cs, cs = Builtin.zeroCells (Value.int .u8 0).cells n ++ Builtin.zeroCells (Value.int .u8 0).cells (G - n) := ⟨_, rfl⟩
  have hsz : cs.size = G := by rw [hcs]; simp [Builtin.zeroCells, Value.cells]; omega
  rw [← hcs] at hrun
  have HRUN := Lib.hid hrun
  have HO := Lib.hid (Own.zero (w := w.drew) cs (base := w.heap.size) (Nat.le_refl _) g2 hsz)
  have HB := Lib.hid (show Below w.heap.size w (w.drew.alloc (.cells cs 5)) from ((Below.refl _ w).drew).alloc (Nat.le_refl _) _)
  have i1 : (0 : Int) < (n : Int) := by omega
  have i2 : ¬ (n : Int) < 0 := by omega
  clear hi hz hs hb hrun hG hcs hsz
  go_enter Tryd.func33, Tryd.ntmps33
  go_wp2_with ((with_reducible refine at_append 26 3 ?_); refine Lib.wpList_append_run _ rfl (.tmp 20) (.tmp 21) 26 3 rfl _ _ rfl rfl _ _ (HRUN.out _) ?_)
  go_ret
  exact ⟨_, rfl, HO.out, HB.out⟩

/-! ### slices.Concat -/
/-- A piece: where it lies, its capacity, its bytes. -/
abbrev Piece := Option Addr × Nat × List (BitVec 8)
def piece (L : List Piece) (i : Nat) : Piece := L.getD i (none, 0, [])
def catLen (L : List Piece) : Nat → Nat
  | 0 => 0
  | k + 1 => catLen L k + (piece L k).2.2.length
def catS (L : List Piece) : Nat → List (BitVec 8)
  | 0 => []
  | k + 1 => catS L k ++ (piece L k).2.2
theorem length_catS (L : List Piece) (k : Nat) : (catS L k).length = catLen L k := by
  induction k with
  | zero => rfl
  | succ k ih => simp [catS, catLen, ih]
theorem catLen_le (L : List Piece) (k m : Nat) (h : k ≤ m) : catLen L k ≤ catLen L m := by
  induction m with
  | zero => obtain rfl : k = 0 := by omega
            exact Nat.le_refl _
  | succ m ih =>
    rcases Nat.lt_or_ge k (m + 1) with h1 | h1
    · exact Nat.le_trans (ih (by omega)) (by simp [catLen])
    · obtain rfl : k = m + 1 := by omega
      exact Nat.le_refl _
def Laid (w : World) (b : Nat) (L : List Piece) : Prop := ∀ i, i < L.length → w.cell? ⟨b, i, none⟩ = some (.slice (piece L i).1 (piece L i).2.2.length (piece L i).2.1) ∧ Rd w (piece L i).1 (piece L i).2.2
theorem Laid.below {w w' : World} {b : Nat} {L : List Piece} (h : Laid w b L) {n : Nat} (hb : Below n w w') (hn : w.heap.size ≤ n) : Laid w' b L := fun i hi =>
  ⟨(hb.cell (p := ⟨b, i, none⟩) (by have := block_lt_of_cell (h i hi).1; simp at this ⊢; omega)).trans (h i hi).1, (h i hi).2.below hb hn⟩

set_option maxHeartbeats 1000000 in
theorem concat23 (b m c : Nat) (L : List Piece) (hm : L.length = m) (hm6 : m ≤ 6) (w : World) (hL : Laid w b L) (h0 : 0 < catLen L m) (hn : catLen L m ≤ 70368744177664) :
    Calls Tryd.prog 23 #[.slice (some ⟨b, 0, none⟩) m c] w fun e w' => ∃ v, e = .returned v ∧ Own w' w.heap.size v (catS L m) ∧ Below w.heap.size w w' := by
  have HL := Lib.hid hL
  have HM := Lib.hid hm
  have HG := Lib.hid (grow33 (catLen L m) h0 hn w)
  have HN := Lib.hid hn
  clear hL hm h0 hn
  go_enter Tryd.func23, Tryd.ntmps23
  go_wp2
  go_loopw [3, 11] (fun s i wr => ∃ k : Nat, k ≤ m ∧ i = .int .i64 k ∧ s = .int .i64 (catLen L k) ∧ w = wr) (fun _ i _ => m - (intOf i).toNat)
  case atStart => exact ⟨0, by omega, rfl, rfl, rfl⟩
  case round =>
    obtain ⟨k, hk, rfl, rfl, rfl⟩ := hrel
    by_cases hlt : k < m
    · have q := (HL.out k (by rw [HM.out]; omega)).1
      have hle := Nat.le_trans (catLen_le L (k + 1) m (by omega)) HN.out
      simp only [catLen] at hle
      have a0 : (k : Int) < (m : Int) := by omega
      have a1 : (k : Int) ≤ 6 := by omega
      obtain ⟨P, hP⟩ : ∃ P, P = piece L k := ⟨_, rfl⟩
      obtain ⟨cl, hcl⟩ : ∃ cl, cl = catLen L k := ⟨_, rfl⟩
      obtain ⟨pl, hpl⟩ : ∃ pl, pl = P.2.2.length := ⟨_, rfl⟩
      rw [← hP, ← hpl] at q
      rw [← hP, ← hcl, ← hpl] at hle
      rw [← hcl]
      have HP := Lib.hid (⟨hP, hcl, hpl⟩ : _ ∧ _ ∧ _)
      have a2 : (cl : Int) + (pl : Int) ≤ 70368744177664 := by omega
      have a3 : ¬ (cl : Int) + (pl : Int) < 0 := by omega
      have a4 : (0 : Int) ≤ (cl : Int) + (pl : Int) := by omega
      clear hP hcl hpl hle
      go_wp2
      refine ⟨⟨k + 1, by omega, by go_num, ?_, trivial⟩, by simp [intOf]; omega⟩
      obtain ⟨h1, h2, h3⟩ := HP.out
      simp only [catLen]
      rw [← h1, ← h2, ← h3]
      go_num
    · obtain rfl : k = m := by omega
      clear hlt
      go_wp2_with (go_at_call 33; refine HG.out.mono ?_; rintro e w1 ⟨v, rfl, hv, hb⟩)
      go_loopw [6, 27] (fun v i wx => ∃ j : Nat, j ≤ k ∧ i = .int .i64 j ∧ Own wx w.heap.size v (catS L j) ∧ Below w.heap.size w wx) (fun _ i _ => k - (intOf i).toNat)
      case atStart => exact ⟨0, by omega, rfl, hv, hb⟩
      case round =>
        obtain ⟨j, hj, rfl, hv, hb⟩ := hrel
        by_cases hlt : j < k
        · have q := HL.out j (by rw [HM.out]; exact hlt)
          have q1 := (hb.cell (p := ⟨b, j, none⟩) (block_lt_of_cell q.1)).trans q.1
          have HR := Lib.hid (q.2.below hb (Nat.le_refl _))
          have hle : Hid ((catS L j).length + (piece L j).2.2.length ≤ 70368744177664) := by
            have := Nat.le_trans (catLen_le L (j + 1) k (by omega)) HN.out
            show _ ≤ _
            rw [length_catS]; exact this
          obtain ⟨P, hP⟩ : ∃ P, P = piece L j := ⟨_, rfl⟩
          rw [← hP] at q1 HR hle
          have HP := Lib.hid hP
          have HV := Lib.hid hv
          have HB := Lib.hid hb
          have hbs := hb.size
          have a0 : (j : Int) < (k : Int) := by omega
          have a1 : (j : Int) ≤ 6 := by omega
          clear q hP hv hb
          go_wp2_with ((with_reducible refine at_append 26 26 ?_); refine wpList_app26 rfl (.tmp 31) (.tmp 32) rfl w.heap.size u6 (catS L j) P.1 P.2.2.length P.2.1 P.2.2 rfl rfl HV.out HR.out rfl hle.out hbs ?_; intro v' w' hown' hg' hat')
          refine ⟨⟨j + 1, by omega, by go_num, ?_, below_app HB.out hbs HV.out (Nat.le_refl _) hg'⟩, by simp [intOf]; omega⟩
          simp only [catS]
          rw [← HP.out]
          exact hown'
        · obtain rfl : j = k := by omega
          go_wp2
          go_ret
          exact ⟨_, rfl, hv, hb⟩
end Go.Proofs.YtbmjjmianhjfiaaDoor
