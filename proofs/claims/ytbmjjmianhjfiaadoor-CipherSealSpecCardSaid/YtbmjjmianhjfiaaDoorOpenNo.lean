/- Open at texts that are too short or too long. -/
import Derived.Test.YtbmjjmianhjfiaaDoorOpen
namespace Go.Proofs.YtbmjjmianhjfiaaDoor
open Go.RowKit
attribute [local irreducible] sumS tagged tagS

set_option maxHeartbeats 1000000 in
theorem open14_len (K N : List (BitVec 8)) (A1 A2 : Option Addr) (n1 n2 c1 c2 : Nat) (w : World) (h : n2 < 16 ∨ 65552 < n2) (hs : n2 ≤ 70368744177664) :
    Calls Tryd.prog 14 #[.agg (K.map Y).toArray, .agg (N.map Y).toArray, .slice A1 n1 c1, .slice A2 n2 c2] w fun e w' => e = .returned (.tuple #[.slice none 0 0, .int .i64 60]) ∧ Below w.heap.size w w' := by
  have b2 := boxB w K N
  rcases h with h | h
  · have m1 : (n2 : Int) - 16 < 0 := by omega
    have m2 : IntKind.i64.wrap ((n2 : Int) - 16) = (n2 : Int) - 16 := by rw [IntKind.wrap_i64]; omega
    clear h hs
    go_enter Tryd.func14, Tryd.ntmps14
    go_wp2
    go_quiet (fail)
    go_wp2
    go_ret2
    exact ⟨rfl, below_drewN b2 _⟩
  · have m0 : ¬ (n2 : Int) - 16 < 0 := by omega
    have m1 : (65536 : Int) < (n2 : Int) - 16 := by omega
    have m2 : IntKind.i64.wrap ((n2 : Int) - 16) = (n2 : Int) - 16 := by rw [IntKind.wrap_i64]; omega
    have m3 : 16 ≤ n2 := by omega
    have m4 : (16 : Int) ≤ (n2 : Int) := by omega
    have m5 : decide ((n2 : Int) - 16 < 0) = false := decide_eq_false m0
    have m6 : decide ((65536 : Int) < (n2 : Int) - 16) = true := decide_eq_true m1
    have m7 : (65552 : Int) < (n2 : Int) := by omega
    clear h hs m3
    go_enter Tryd.func14, Tryd.ntmps14
    go_wp2
    go_quiet (fail)
    go_wp2
    go_ret2
    exact ⟨rfl, below_drewN b2 _⟩
end Go.Proofs.YtbmjjmianhjfiaaDoor
