/- What the closure of slices.Chunk at 64 hands to the body of a range over it: the chunks of 64 bytes, in order. -/
import Derived.RangeFuncNested
import Derived.RangeFuncBound
import Derived.RangeFuncCalls
import Derived.RangeFuncLeaves
import Derived.Shelf.Abstract
import Derived.Shelf.RegionOpen
import Derived.WalkKit
import Derived.OwnWalkIn
import Derived.TacticsInMore
import Derived.LoopNIn
import Derived.LoopIn
import Derived.RegionIn
import Derived.Test.YtbmjjmianhjfiaaDoorClone
namespace Go.Proofs.YtbmjjmianhjfiaaDoor
open Go.RowKit Go.Shelf
attribute [local go_sem] Oper.semAt_some

/-- A number of a chunk of L bytes. -/
def chunkNo (L x : Nat) : Nat := if 64 * x < L then x else 0
def chunkLen (L x : Nat) : Nat := min 64 (L - 64 * chunkNo L x)
def encC (g L : Nat) (x : Nat) : Array Value := #[.slice (some ⟨g, 64 * chunkNo L x, none⟩) (chunkLen L x) (chunkLen L x)]
/-- A round keeps the iterator's two boxes. -/
def KeepsBoxes (bs bn : Nat) (A B : World) : Prop := B.heap[bs]? = A.heap[bs]? ∧ B.heap[bn]? = A.heap[bn]?
theorem KeepsBoxes.trans {bs bn : Nat} {A B C : World} (h : KeepsBoxes bs bn A B) (k : KeepsBoxes bs bn B C) : KeepsBoxes bs bn A C := ⟨k.1.trans h.1, k.2.trans h.2⟩

set_option maxRecDepth 100000 in
set_option maxHeartbeats 1000000 in
theorem chunk34_in (n : Nat) (hn : 1 ≤ n) (l bs bn g L cap : Nat) (hL : 0 < L) (hLc : L ≤ cap) (hsz : L ≤ 70368744177664) (J Jx : List Nat → World → Prop)
    (hY : ∀ pre x W, J pre W → pre.length < (L + 63) / 64 → YieldAt Fence.wide (n - 1) Tryd.prog l (encC g L x) W fun e W' =>
      (e = .returned (.bool true) ∧ J (pre ++ [x]) W' ∧ KeepsBoxes bs bn W W') ∨ (e = .returned (.bool false) ∧ Jx (pre ++ [x]) W'))
    (hJd : ∀ pre W k, J pre W → J pre (World.drewN W k)) (W : World) (hbs : W.cell? ⟨bs, 0, none⟩ = some (.slice (some ⟨g, 0, none⟩) L cap)) (hbn : W.cell? ⟨bn, 0, none⟩ = some (.int .i64 64)) (h0 : J [] W) :
    CallsIn Fence.wide n Tryd.prog 34 #[.func (.yield l) #[] #[], .pointer (some ⟨bs, 0, none⟩), .pointer (some ⟨bn, 0, none⟩)] W fun e W' => (∃ v, e = .returned v) ∧
      ((∃ ys, ys = List.range ((L + 63) / 64) ∧ J ys W') ∨ (∃ pre, True ∧ Jx pre W')) := by
  refine callsIn_of_wp Tryd.func34 rfl trivial ?_ rfl
  simp only [Tryd.ntmps34, List.size_toArray, List.length_cons, List.length_nil, Nat.reduceAdd, Nat.reduceSub, Array.replicate_succ, Array.replicate_zero, List.push_toArray, List.append_toArray, List.nil_append, List.cons_append]
  gi_wp2
  gi_loopw [4] (fun i wr => ∃ k : Nat, k ≤ (L + 63) / 64 ∧ i = .int .i64 (64 * (k : Int)) ∧ J (List.range k) wr ∧ KeepsBoxes bs bn W wr)
    (fun i _ => L + 64 - (intOf i).toNat)
  case atStart => exact ⟨0, Nat.zero_le _, rfl, h0, rfl, rfl⟩
  case round =>
    obtain ⟨k, hk, rfl, hJ, hkp⟩ := hrel
    have cs : wr.cell? ⟨bs, 0, none⟩ = some (.slice (some ⟨g, 0, none⟩) L cap) := (World.cell?_of_block (w := W) hkp.1).trans hbs
    have cn : wr.cell? ⟨bn, 0, none⟩ = some (.int .i64 64) := (World.cell?_of_block (w := W) hkp.2).trans hbn
    by_cases hlt : 64 * k < L
    · have hlt' : 64 * (k : Int) < (L : Int) := by omega
      have a0 : (0 : Int) ≤ 64 * (k : Int) := by omega
      have a1 : 64 * (k : Int) ≤ (L : Int) := by omega
      have a2 : (64 * (k : Int)).toNat = 64 * k := by omega
      have a3 : ¬ cap = 64 * k := by omega
      obtain ⟨e, he⟩ : ∃ e, e = min 64 (L - 64 * k) := ⟨_, rfl⟩
      have henc : encC g L k = #[.slice (some ⟨g, 64 * k, none⟩) e e] := by
        have : chunkNo L k = k := by simp [chunkNo, hlt]
        simp only [encC, chunkLen, this, he]
      have HENC := Lib.hid henc
      have hmin : (if ((L - 64 * k : Nat) : Int) < 64 then ((L - 64 * k : Nat) : Int) else 64) = (e : Int) := by split <;> omega
      have hE := Lib.hid he
      clear he henc
      gi_wp2
      refine wpIn_wide.2 ?_
      go_quiet (fail)
      clear hmin a2 a3
      obtain ⟨fn, tmps, assign, body, hy, hR⟩ := hY _ k (wr.drewN nq) (hJd _ _ _ hJ) (by simp; omega)
      rw [HENC.out] at hy
      have he := hE.out
      have b0 : (0 : Int) ≤ 64 * (k : Int) + (e : Int) := by omega
      have b1 : 64 * (k : Int) + (e : Int) ≤ (cap : Int) := by omega
      have b2 : (64 * (k : Int) + (e : Int)).toNat = 64 * k + e := by omega
      have b6 : 64 * (k : Int) + (e : Int) ≤ 70368744177664 := by omega
      have b7 : 64 * k + e - 64 * k = e := by omega
      have b4 : (64 * (k : Int)).toNat = 64 * k := by omega
      have b3 : 64 * (k : Int) ≤ 64 * (k : Int) + (e : Int) := by omega
      have b5 : ¬ e = 0 := by omega
      clear he
      gi_wp2
      refine hR.mono ?_
      rintro e' W3 (⟨rfl, hJ3, hk3⟩ | ⟨rfl, hJx3⟩)
      · have cn3 : W3.cell? ⟨bn, 0, none⟩ = some (.int .i64 64) := (World.cell?_of_block (w := wr) hk3.2).trans cn
        have c6 : 64 * (k : Int) + 64 ≤ 140737488355328 := by omega
        gi_wp2
        go_roundw
        case rel => exact ⟨k + 1, by omega, by congr 1, by rw [List.range_succ]; exact hJ3, hkp.trans hk3⟩
        case measure => simp [intOf]; omega
      · gi_wp2
        refine bodyPost_ret (results_none rfl _ _ _) rfl ?_
        exact ⟨⟨_, rfl⟩, .inr ⟨_, trivial, hJx3⟩⟩
    · have hk' : k = (L + 63) / 64 := by omega
      gi_wp2
      go_end0
      exact ⟨⟨_, rfl⟩, .inl ⟨_, rfl, hk' ▸ hJ⟩⟩

theorem chunk_stops (n : Nat) (hn : 1 ≤ n) (bs bn g L cap : Nat) (hL : 0 < L) (hLc : L ≤ cap) (hsz : L ≤ 70368744177664) (w : World)
    (hbs : w.cell? ⟨bs, 0, none⟩ = some (.slice (some ⟨g, 0, none⟩) L cap)) (hbn : w.cell? ⟨bn, 0, none⟩ = some (.int .i64 64)) :
    SeqStopsK Fence.wide n Tryd.prog 34 #[.pointer (some ⟨bs, 0, none⟩), .pointer (some ⟨bn, 0, none⟩)] (encC g L) (KeepsBoxes bs bn) (fun ys => ys = List.range ((L + 63) / 64)) (fun _ => True) ((L + 63) / 64) w := fun l J Jx W hW hJ _ hY h0 =>
  chunk34_in n hn l bs bn g L cap hL hLc hsz J Jx hY (fun pre W1 k h => hJ pre W1 (W1.drewN k) none h (only_drewN (World.grownBy.refl _ _) k) (fun r e => by cases e)) W
    ((hW.cell (p := ⟨bs, 0, none⟩) (block_lt_of_cell hbs)).trans hbs) ((hW.cell (p := ⟨bn, 0, none⟩) (block_lt_of_cell hbn)).trans hbn) h0

set_option maxRecDepth 100000 in
set_option maxHeartbeats 1000000 in
/-- .. at a slice without elements: no round. -/
theorem chunk34_zero (n : Nat) (l bs bn cap : Nat) (A : Option Addr) (J : List Nat → World → Prop) (W : World) (hbs : W.cell? ⟨bs, 0, none⟩ = some (.slice A 0 cap)) (h0 : J [] W) :
    CallsIn Fence.wide n Tryd.prog 34 #[.func (.yield l) #[] #[], .pointer (some ⟨bs, 0, none⟩), .pointer (some ⟨bn, 0, none⟩)] W fun e W' => (∃ v, e = .returned v) ∧ J [] W' := by
  refine callsIn_of_wp Tryd.func34 rfl trivial ?_ rfl
  simp only [Tryd.ntmps34, List.size_toArray, List.length_cons, List.length_nil, Nat.reduceAdd, Nat.reduceSub, Array.replicate_succ, Array.replicate_zero, List.push_toArray, List.append_toArray, List.nil_append, List.cons_append]
  gi_wp2
  gi_loopw [4] (fun i wr => i = .int .i64 0 ∧ wr = W) (fun _ _ => 0)
  case atStart => exact ⟨rfl, rfl⟩
  case round =>
    obtain ⟨rfl, rfl⟩ := hrel
    gi_wp2
    go_end0
    exact ⟨⟨_, rfl⟩, h0⟩
theorem chunk_stops_zero (n : Nat) (bs bn g L cap : Nat) (A : Option Addr) (w : World) (hbs : w.cell? ⟨bs, 0, none⟩ = some (.slice A 0 cap)) :
    SeqStopsK Fence.wide n Tryd.prog 34 #[.pointer (some ⟨bs, 0, none⟩), .pointer (some ⟨bn, 0, none⟩)] (encC g L) (KeepsBoxes bs bn) (fun ys => ys = []) (fun _ => True) 0 w := fun l J _Jx W hW _ _ _ h0 =>
  (chunk34_zero n l bs bn cap A J W ((hW.cell (p := ⟨bs, 0, none⟩) (block_lt_of_cell hbs)).trans hbs) h0).mono fun _ _ ⟨he, hj⟩ => ⟨he, .inl ⟨_, rfl, hj⟩⟩
end Go.Proofs.YtbmjjmianhjfiaaDoor
