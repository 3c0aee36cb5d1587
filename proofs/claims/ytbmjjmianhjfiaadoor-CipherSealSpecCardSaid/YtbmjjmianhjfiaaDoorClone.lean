/- What bytes.Clone and slices.Chunk return: a copy in new memory, the iterator's closure over its two boxes. -/
import Derived.Test.YtbmjjmianhjfiaaDoorBox
namespace Go.Proofs.YtbmjjmianhjfiaaDoor
open Go.RowKit
theorem Own.empty (w : World) (base : Nat) (hb : base ≤ w.heap.size) : Own (w.alloc (.cells #[] 5)) base (.slice (some ⟨w.heap.size, 0, none⟩) 0 0) [] := by
  have := World.ownsRow_lit (base := base) (e := 5) (size := 1) w #[] 0 hb (by simp [maxLen]) (by simp)
  exact this

set_option maxHeartbeats 400000 in
theorem clone25_some (ad : Addr) (n c : Nat) (xs : List (BitVec 8)) (w : World) (hr : Rd w (some ad) xs) (hn : xs.length = n) (hsz : n ≤ 70368744177664) :
    Calls Tryd.prog 25 #[.slice (some ad) n c] w fun e w' => ∃ v, e = .returned v ∧ Own w' w.heap.size v xs ∧ Below w.heap.size w w' := by
  have hnil := fun wx => Lib.run_eql_slice_nil (P := Tryd.prog) wx 26 5 (some ad) n c 0 0 Tryd.underlying26
  have HR := Lib.hid (Rd.alloc hr (.cells #[] 5))
  have HO := Lib.hid (Own.empty w w.heap.size (Nat.le_refl _))
  have HN := Lib.hid hn
  have HB := Lib.hid (show ([] : List (BitVec 8)).length + n ≤ 70368744177664 by simpa using hsz)
  clear hr hn hsz
  go_enter Tryd.func25, Tryd.ntmps25
  go_wp2_with ((with_reducible refine at_append 26 26 ?_); refine wpList_app26 rfl (.tmp 5) (.tmp 6) rfl w.heap.size _ [] (some ad) n c xs rfl rfl HO.out HR.out HN.out HB.out (by simp) ?_; intro v' w' hown' hg' hat')
  go_ret
  exact ⟨_, rfl, hown', below_app ((Below.refl _ w).alloc (Nat.le_refl _) _) (by simp) (Own.empty w w.heap.size (Nat.le_refl _)) (Nat.le_refl _) hg'⟩

theorem clone25 (A : Option Addr) (n c : Nat) (xs : List (BitVec 8)) (w : World) (hr : Rd w A xs) (hn : xs.length = n) (hsz : n ≤ 70368744177664) :
    Calls Tryd.prog 25 #[.slice A n c] w fun e w' => ∃ v, e = .returned v ∧ Own w' w.heap.size v xs ∧ Below w.heap.size w w' := by
  rcases A with _ | ad
  · have h0 : xs = [] := by
      rcases xs with _ | ⟨y, ys⟩
      · rfl
      · obtain ⟨b, off, h, _⟩ := hr (by simp)
        cases h
    subst h0
    have hnil := fun wx => Lib.run_eql_slice_nil (P := Tryd.prog) wx 26 5 none n c 0 0 Tryd.underlying26
    clear hr hn
    go_enter Tryd.func25, Tryd.ntmps25
    go_wp2
    go_ret
    exact ⟨_, rfl, Own.nil _ _, Below.refl _ _⟩
  · exact clone25_some ad n c xs w hr hn hsz

set_option maxHeartbeats 400000 in
theorem chunk26 (A : Option Addr) (n c : Nat) (w : World) :
    Calls Tryd.prog 26 #[.slice A n c, .int .i64 64] w fun e w' => e = .returned (.func (.func 34) #[] #[.pointer (some ⟨w.heap.size, 0, none⟩), .pointer (some ⟨w.heap.size + 1, 0, none⟩)]) ∧
      w' = (w.alloc (.cells #[.slice A n c] 26)).alloc (.cells #[.int .i64 64] 3) := by
  go_enter Tryd.func26, Tryd.ntmps26
  go_wp2
  go_ret
  exact ⟨rfl, rfl⟩
end Go.Proofs.YtbmjjmianhjfiaaDoor
