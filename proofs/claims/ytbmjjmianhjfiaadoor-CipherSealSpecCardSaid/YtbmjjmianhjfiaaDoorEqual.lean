/- bytes.Equal; strings are equal just where their bytes are. -/
import Derived.Test.YtbmjjmianhjfiaaDoorMem
import Derived.Laws.StructEq
namespace Go.Proofs.YtbmjjmianhjfiaaDoor
open Go.RowKit
theorem str_eq (xs ys : List (BitVec 8)) : ((strOf xs).toList == (strOf ys).toList) = decide (xs = ys) := by
  rw [ByteArray.toList_eq, ByteArray.toList_eq]
  by_cases h : xs = ys
  · subst h; simp
  · rw [decide_eq_false h]
    apply Bool.eq_false_iff.2
    intro h2
    exact h (strOf_inj (ByteArray.ext (Array.toList_inj.1 (eq_of_beq h2))))
theorem equal24 (A1 A2 : Option Addr) (n1 n2 c1 c2 : Nat) (xs ys : List (BitVec 8)) (w : World) (hr1 : Rd w A1 xs) (hr2 : Rd w A2 ys) (hn1 : xs.length = n1) (hn2 : ys.length = n2) :
    Calls Tryd.prog 24 #[.slice A1 n1 c1, .slice A2 n2 c2] w fun e w' => e = .returned (.bool (decide (xs = ys))) ∧ w' = w := by
  have h1 := run_str26 w A1 n1 c1 xs hr1 hn1
  have h2 := run_str26 w A2 n2 c2 ys hr2 hn2
  have h3 := str_eq xs ys
  clear hr1 hr2 hn1 hn2
  go_enter Tryd.func24, Tryd.ntmps24
  go_wp2
  go_ret
  exact ⟨rfl, rfl⟩
end Go.Proofs.YtbmjjmianhjfiaaDoor
