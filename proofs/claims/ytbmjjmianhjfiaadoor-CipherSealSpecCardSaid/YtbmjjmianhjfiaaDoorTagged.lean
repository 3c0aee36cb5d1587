/- Tagged at the tag "tag". -/
import Derived.Test.YtbmjjmianhjfiaaDoorSum
import Derived.Test.YtbmjjmianhjfiaaDoorConcat
namespace Go.Proofs.YtbmjjmianhjfiaaDoor
open Go.RowKit

attribute [local irreducible] sumS
def tagB : List (BitVec 8) := [116#8, 97#8, 103#8]
def tagged (xs : List (BitVec 8)) : List (BitVec 8) := sumS (sumS tagB ++ xs)
theorem length_tagged (xs : List (BitVec 8)) : (tagged xs).length = 32 := length_sumS _

theorem conv_tag (w : World) : ∃ c w1, (convert 9 26 (.string { data := #[116, 97, 103] })).run Tryd.prog w = .ok (.slice (some ⟨w.heap.size, 0, none⟩) 3 c) w1 ∧ 3 ≤ c ∧ c ≤ maxLen ∧ Rd w1 (some ⟨w.heap.size, 0, none⟩) tagB ∧ Below w.heap.size w w1 := by
  have h := run_bytes_of_string (P := Tryd.prog) w 9 26 5 { data := #[116, 97, 103] } Tryd.underlying9 Tryd.underlying26 Tryd.underlying5
  have g1 := grownCap_ge (w := w) 3 0 5
  have g2 := grownCap_le_maxLen w 3 0 5 (by unfold maxLen; omega)
  change (convert 9 26 (.string { data := #[116, 97, 103] })).run Tryd.prog w = .ok (.slice (some ⟨w.heap.size, 0, none⟩) 3 (grownCap w 3 0 5)) (w.drew.alloc (.cells (bytesRow { data := #[116, 97, 103] } (grownCap w 3 0 5)) 5 ((bytesRow { data := #[116, 97, 103] } (grownCap w 3 0 5)).size, (bytesRow { data := #[116, 97, 103] } (grownCap w 3 0 5)).size + 1))) at h
  refine ⟨_, _, h, g1, g2, ?_, ((Below.refl _ w).drew).alloc (Nat.le_refl _) _⟩
  intro _
  refine ⟨w.heap.size, 0, rfl, fun i hi => ?_⟩
  have h2 := heap_alloc_new w.drew (.cells (bytesRow { data := #[116, 97, 103] } (grownCap w 3 0 5)) 5 ((bytesRow { data := #[116, 97, 103] } (grownCap w 3 0 5)).size, (bytesRow { data := #[116, 97, 103] } (grownCap w 3 0 5)).size + 1))
  change (w.drew.alloc _).cell? ⟨w.drew.heap.size, 0 + i, none⟩ = _
  rw [cell_of_row _ _ _ _ _ _ h2]
  have hi3 : i < 3 := hi
  rcases i with _ | _ | _ | i
  · simp [bytesRow, tagB, B, Array.getElem?_append]
  · simp [bytesRow, tagB, B, Array.getElem?_append]
  · simp [bytesRow, tagB, B, Array.getElem?_append]
  · omega
theorem laid_new (w : World) (g : Nat) (hg : w.heap.size = g) (L : List Piece) (hr : ∀ i, i < L.length → Rd w (piece L i).1 (piece L i).2.2) :
    Laid (w.alloc (.cells (L.map fun p => Value.slice p.1 p.2.2.length p.2.1).toArray 26)) g L := fun i hi => by
  subst hg
  refine ⟨?_, (hr i hi).alloc _⟩
  rw [Blk.at (Blk.new w 26 (L.map fun p => Value.slice p.1 p.2.2.length p.2.1)) i]
  simp [piece, hi]
theorem two_rd {w : World} {P Q : Piece} {i : Nat} (hi : i < [P, Q].length) (h1 : Rd w P.1 P.2.2) (h2 : Rd w Q.1 Q.2.2) : Rd w (piece [P, Q] i).1 (piece [P, Q] i).2.2 := by
  rcases i with _ | _ | i
  · exact h1
  · exact h2
  · simp at hi; omega
theorem cat_tag (a c : Nat) (A1 A2 : Option Addr) (D xs : List (BitVec 8)) : catS [(A1, a, D), (A2, c, xs)] 2 = D ++ xs := by simp [catS, piece]
theorem at_convert {P : Program} {ops : Array Oper} {Q : Exit → Act → World → Prop} {dst : Option Tmp} {x : Operand} {t : TypeId} {pos : String} {aft : Array Edge} {rest : List Oper} {a : Act} {w : World} (u v : TypeId)
    (h : wpList P ops Q ({ dst := dst, op := .convert u v x, type := t, pos := pos, after := aft, guard := none } :: rest) a w) :
    wpList P ops Q ({ dst := dst, op := .convert u v x, type := t, pos := pos, after := aft, guard := none } :: rest) a w := h

set_option maxRecDepth 100000 in
set_option maxHeartbeats 1000000 in
theorem tagged13 (A : Option Addr) (n c : Nat) (xs : List (BitVec 8)) (w : World) (hT0 : Lay w 0 startS) (hT1 : Lay w 1 numbersS) (hr : Rd w A xs) (hn : xs.length = n) (hsz : n ≤ 70368744177600) :
    Calls Tryd.prog 13 #[.string { data := #[116, 97, 103] }, .slice A n c] w fun e w' => e = .returned (.agg ((sumS (sumS tagB ++ xs)).map Y).toArray) ∧ Below w.heap.size w w' := by
  have HR := Lib.hid hr
  have HT0 := Lib.hid hT0
  have HT1 := Lib.hid hT1
  have HN := Lib.hid hn
  clear hr hT0 hT1 hn
  go_enter Tryd.func13, Tryd.ntmps13
  have HS33 := Lib.hid (show (Tryd.prog.info? 33).map (·.size) = some ((sumS tagB).map Y).toArray.size by rw [size33]; simp [length_sumS])
  have HSA := Lib.hid (Y_all (sumS tagB))
  have HLZ := Lib.hid (show ((zeroB 32).map Y).toArray.size = ((sumS tagB).map Y).toArray.size by simp [length_sumS, length_zeroB])
  have HS33' := Lib.hid (show (Tryd.prog.info? 33).map (·.size) = some ((sumS (sumS tagB ++ xs)).map Y).toArray.size by rw [size33]; simp [length_sumS])
  have HSA' := Lib.hid (Y_all (sumS (sumS tagB ++ xs)))
  have HLZ' := Lib.hid (show ((zeroB 32).map Y).toArray.size = ((sumS (sumS tagB ++ xs)).map Y).toArray.size by simp [length_sumS, length_zeroB])
  go_wp2_with (first
    | ((with_reducible refine at_convert 9 26 ?_); refine forget_wpl (fun wa => Blk wa w.heap.size 33 ((zeroB 32).map Y) ∧ Below w.heap.size w wa ∧ wa.heap.size = w.heap.size + 1) ⟨Blk.new w 33 _, (Below.refl _ w).alloc (Nat.le_refl _) _, by simp⟩ ?_; rintro wa ⟨ha1, ha2, ha3⟩; obtain ⟨c0, w1, hc, hc3, hcm, hrd, hb1⟩ := conv_tag wa; rw [ha3] at hrd hb1; have hb1' : Below w.heap.size w w1 := ha2.trans (hb1.mono (by omega)); have HC := Lib.hid (sum22 (some ⟨w.heap.size + 1, 0, none⟩) 3 c0 tagB w1 (HT0.out.below hb1' (Nat.le_refl _)) (HT1.out.below hb1' (Nat.le_refl _)) hrd rfl hc3 hcm (by omega)); have HB1 := Lib.hid hb1'; have HD1 := Lib.hid (ha1.below hb1 (by omega)); have hs1 : w.heap.size + 1 ≤ w1.heap.size := (by have := hb1.size; omega); clear hb1 hb1' hrd ha1 ha2 hc3 hcm)
    | (go_at_call 22; with_reducible refine HC.out.mono ?_; rintro e w2 ⟨rfl, hb2⟩)
    | ((with_reducible refine at_store 33 ?_); refine wpList_store_row rfl 33 _ _ rfl w2.heap.size _ rfl rfl 33 _ (Blk.new w2 33 ((zeroB 32).map Y)) HS33.out HLZ.out HSA.out ?_; refine forget_wpl (fun w3 => Blk w3 w2.heap.size 33 ((sumS tagB).map Y) ∧ Below w2.heap.size w2 w3 ∧ w3.heap.size = w2.heap.size + 1) ⟨setRow_heap _ _ _ _ 33 _ (Blk.new w2 33 ((zeroB 32).map Y)), below_setRow ((Below.refl _ w2).alloc (Nat.le_refl _) _) (Nat.le_refl _) _, by simp [World.setRow]⟩ ?_; rintro w3 ⟨hd3, hb3, hs3⟩)
    | (go_at_call 23; have hb4 : Below w.heap.size w w3 := (HB1.out.trans (hb2.mono (by omega))).trans (hb3.mono (by have := hb2.size; omega)); have hlaid := laid_new w3 (w2.heap.size + 1) hs3 [(some ⟨w2.heap.size, 0, none⟩, 32, sumS tagB), (A, c, xs)] (fun i hi => two_rd hi (Rd.block hd3) (HR.out.below hb4 (Nat.le_refl _))); simp only [List.map_cons, List.map_nil, length_sumS, HN.out] at hlaid; have hlen : catLen [(some ⟨w2.heap.size, 0, none⟩, 32, sumS tagB), (A, c, xs)] 2 = 32 + n := (by simp [catLen, piece, length_sumS, HN.out]); refine (concat23 (w2.heap.size + 1) 2 2 [(some ⟨w2.heap.size, 0, none⟩, 32, sumS tagB), (A, c, xs)] rfl (by omega) _ hlaid (by rw [hlen]; omega) (by rw [hlen]; omega)).mono ?_; rintro e w4 ⟨v, rfl, hv, hb5⟩; have hb6 : Below w.heap.size w w4 := (hb4.alloc hb4.size _).trans (hb5.mono (by have := hb4.size; simp; omega)); have hll : (catS [(some ⟨w2.heap.size, 0, none⟩, 32, sumS tagB), (A, c, xs)] 2).length = 32 + n := (by rw [length_catS, hlen]); obtain ⟨A', c', rfl, hcl, hcm, hrd, -⟩ := hv.form; rw [cat_tag] at hrd; have HC2 := Lib.hid (sum22 A' (32 + n) c' (sumS tagB ++ xs) w4 (HT0.out.below hb6 (Nat.le_refl _)) (HT1.out.below hb6 (Nat.le_refl _)) hrd (by rw [List.length_append, length_sumS, HN.out]) (by rw [← hll]; exact hcl) hcm (by omega)); have HB6 := Lib.hid hb6; have HD6 := Lib.hid (((HD1.out.below (hb2.trans (hb3.mono hb2.size)) (by omega)).alloc _).kept hb5); clear hlaid hlen hv hrd hb4 hb6)
    | (go_at_call 22; with_reducible refine HC2.out.mono ?_; rintro e w5 ⟨rfl, hb7⟩)
    | ((with_reducible refine at_store 33 ?_); refine wpList_store_row rfl 33 _ _ rfl w.heap.size _ rfl rfl 33 _ (HD6.out.kept hb7) HS33'.out HLZ'.out HSA'.out ?_))
  refine bodyPost_ret (results_cell_row rfl _ _ w.heap.size 33 _ (0, 0) _ rfl (setRow_heap _ w.heap.size _ _ 33 _ (HD6.out.kept hb7)) Tryd.underlying33 rfl HS33'.out) rfl ?_
  exact ⟨rfl, below_setRow (HB6.out.trans (hb7.mono HB6.out.size)) (Nat.le_refl _) _⟩
end Go.Proofs.YtbmjjmianhjfiaaDoor
