/- What tag returns: the first 16 bytes of the hash under "tag" over key, nonce, the length of the head, head and bytes. -/
import Derived.Test.YtbmjjmianhjfiaaDoorTagged
import Derived.Test.YtbmjjmianhjfiaaDoorRegionInv
import Derived.Test.YtbmjjmianhjfiaaDoorPut
import Derived.Test.YtbmjjmianhjfiaaDoorBox
namespace Go.Proofs.YtbmjjmianhjfiaaDoor
open Go.RowKit
attribute [local irreducible] sumS

def tagIn (K N xs ys : List (BitVec 8)) : List (BitVec 8) := K ++ N ++ eightS xs.length 8 ++ xs ++ ys
/-- What holds in the region as long as nothing is stored. -/
structure In21 (K N xs ys : List (BitVec 8)) (g n1 n2 : Nat) (A1 A2 : Option Addr) (c1 c2 : Nat) (w0 : World) (d : Nat → Bool) (x9 x10 x11 x12 x13 x14 x15 x16 x17 x18 x19 : Value) (w : World) : Prop where
  key : Blk w g 23 (K.map Y)
  non : Blk w (g + 1) 25 (N.map Y)
  old : Below w0.heap.size w0 w
  sz : g + 2 ≤ w.heap.size
  e0 : d 0 = true → x10 = .slice (some ⟨g, 0, none⟩) 32 32
  e1 : d 1 = true → x11 = .slice (some ⟨g + 1, 0, none⟩) 12 12
  e2 : d 2 = true → x12 = .slice A1 n1 c1
  e3 : d 3 = true → x13 = .int .i64 n1
  e4 : d 4 = true → Own w (g + 2) x14 (eightS n1 8)
  e5 : d 5 = true → x15 = .slice A1 n1 c1
  e6 : d 6 = true → x16 = .slice A2 n2 c2
  e7 : d 7 = true → ∃ b A8 c8, x17 = .slice (some ⟨b, 0, none⟩) 5 5 ∧ Laid w b [(some ⟨g, 0, none⟩, 32, K), (some ⟨g + 1, 0, none⟩, 12, N), (A8, c8, eightS n1 8), (A1, c1, xs), (A2, c2, ys)]
  e8 : d 8 = true → Own w (g + 2) x18 (tagIn K N xs ys)
  e9 : d 9 = true → x19 = .agg ((tagged (tagIn K N xs ys)).map Y).toArray
  e10 : d 10 = true → ∃ b, x9 = .pointer (some ⟨b, 0, none⟩) ∧ g + 2 ≤ b ∧ Blk w b 33 ((zeroB 32).map Y)

theorem In21.grown {K N xs ys : List (BitVec 8)} {g n1 n2 : Nat} {A1 A2 : Option Addr} {c1 c2 : Nat} {w0 w w' : World} {d : Nat → Bool} {x9 x10 x11 x12 x13 x14 x15 x16 x17 x18 x19 : Value}
    (h : In21 K N xs ys g n1 n2 A1 A2 c1 c2 w0 d x9 x10 x11 x12 x13 x14 x15 x16 x17 x18 x19 w) (hb : Below w.heap.size w w') : In21 K N xs ys g n1 n2 A1 A2 c1 c2 w0 d x9 x10 x11 x12 x13 x14 x15 x16 x17 x18 x19 w' :=
  ⟨h.key.kept hb, h.non.kept hb, h.old.trans (hb.mono h.old.size), Nat.le_trans h.sz hb.size, h.e0, h.e1, h.e2, h.e3, fun e => (h.e4 e).below hb, h.e5, h.e6,
    fun e => by obtain ⟨b, A8, c8, h1, h2⟩ := h.e7 e; exact ⟨b, A8, c8, h1, h2.below hb (Nat.le_refl _)⟩, fun e => (h.e8 e).below hb, h.e9,
    fun e => by obtain ⟨b, h1, h2, h3⟩ := h.e10 e; exact ⟨b, h1, h2, h3.kept hb⟩⟩

def upB (ops : Array Oper) : Bool := (List.range ops.size).all fun i => ((ops[i]?).map fun o => o.after.all fun e => decide (e.on < i)).getD true
theorem up_of {ops : Array Oper} (h : upB ops = true) : ∀ (i : Nat) (o : Oper), ops[i]? = some o → ∀ e ∈ o.after, e.on < i := by
  intro i o ho e he
  have hlt : i < ops.size := (Array.getElem?_eq_some_iff.1 ho).1
  have h1 := List.all_eq_true.1 h i (List.mem_range.2 hlt)
  rw [ho] at h1
  simp only [Option.map_some, Option.getD_some] at h1
  exact of_decide_eq_true (Array.all_eq_true_iff_forall_mem.1 h1 e he)

theorem five_rd {w : World} {P1 P2 P3 P4 P5 : Piece} {i : Nat} (hi : i < [P1, P2, P3, P4, P5].length) (h1 : Rd w P1.1 P1.2.2) (h2 : Rd w P2.1 P2.2.2) (h3 : Rd w P3.1 P3.2.2) (h4 : Rd w P4.1 P4.2.2) (h5 : Rd w P5.1 P5.2.2) :
    Rd w (piece [P1, P2, P3, P4, P5] i).1 (piece [P1, P2, P3, P4, P5] i).2.2 := by
  rcases i with _ | _ | _ | _ | _ | i
  · exact h1
  · exact h2
  · exact h3
  · exact h4
  · exact h5
  · simp at hi; omega
/-- The region's invariant. -/
def Inv21 (K N xs ys : List (BitVec 8)) (g n1 n2 : Nat) (A1 A2 : Option Addr) (c1 c2 : Nat) (w0 : World) (d : Nat → Bool) (a : Act) (w : World) : Prop :=
  ∃ x9 x10 x11 x12 x13 x14 x15 x16 x17 x18 x19, a = { tmps := #[.agg (K.map Y).toArray, .agg (N.map Y).toArray, .slice A1 n1 c1, .slice A2 n2 c2, .pointer (some ⟨g, 0, none⟩), .pointer (some ⟨g + 1, 0, none⟩), undef, undef, .slice none 0 0,
      x9, x10, x11, x12, x13, x14, x15, x16, x17, x18, x19, undef], defers := [] } ∧
    (d 11 = false → In21 K N xs ys g n1 n2 A1 A2 c1 c2 w0 d x9 x10 x11 x12 x13 x14 x15 x16 x17 x18 x19 w) ∧
    (d 11 = true → (∀ j, j < 11 → d j = true) ∧ ∃ b, x9 = .pointer (some ⟨b, 0, none⟩) ∧ g + 2 ≤ b ∧ Blk w b 33 ((tagged (tagIn K N xs ys)).map Y) ∧ Below w0.heap.size w0 w)

set_option maxRecDepth 100000 in
set_option maxHeartbeats 1000000 in
theorem tag21 (K N : List (BitVec 8)) (hK : K.length = 32) (hN : N.length = 12) (A1 A2 : Option Addr) (n1 n2 c1 c2 : Nat) (xs ys : List (BitVec 8)) (w : World) (hT0 : Lay w 0 startS) (hT1 : Lay w 1 numbersS)
    (hr1 : Rd w A1 xs) (hr2 : Rd w A2 ys) (hn1 : xs.length = n1) (hn2 : ys.length = n2) (hs1 : n1 ≤ 35184372088000) (hs2 : n2 ≤ 35184372088000) :
    Calls Tryd.prog 21 #[.agg (K.map Y).toArray, .agg (N.map Y).toArray, .slice A1 n1 c1, .slice A2 n2 c2] w fun e w' => ∃ b c, e = .returned (.slice (some ⟨b, 0, none⟩) 16 c) ∧ w.heap.size ≤ b ∧ 16 ≤ c ∧ Blk w' b 33 ((tagged (tagIn K N xs ys)).map Y) ∧ Below w.heap.size w w' := by
  have HS33 := Lib.hid (show (Tryd.prog.info? 33).map (·.size) = some ((tagged (tagIn K N xs ys)).map Y).toArray.size by rw [size33]; simp [length_tagged])
  have HSA := Lib.hid (Y_all (tagged (tagIn K N xs ys)))
  have HLZ := Lib.hid (show ((zeroB 32).map Y).toArray.size = ((tagged (tagIn K N xs ys)).map Y).toArray.size by simp [length_tagged, length_zeroB])
  go_enter Tryd.func21, Tryd.ntmps21
  go_wp2
  refine wp_region_inv (Inv21 K N xs ys w.heap.size n1 n2 A1 A2 c1 c2 w) (by kernel_rfl) ?up ?start ?step ?fin
  case up => exact up_of (by kernel_rfl)
  case start =>
    refine ⟨undef, undef, undef, undef, undef, undef, undef, undef, undef, undef, undef, rfl, fun _ => ?_, fun h => by cases h⟩
    exact ⟨(boxK w K N).drewN 1, (boxN w K N).drewN 1, below_drewN (boxB w K N) 1, by simp, (nomatch ·), (nomatch ·), (nomatch ·), (nomatch ·), (nomatch ·), (nomatch ·), (nomatch ·), (nomatch ·), (nomatch ·), (nomatch ·), (nomatch ·)⟩
  case fin =>
    rintro d a w' hd ⟨x9, x10, x11, x12, x13, x14, x15, x16, x17, x18, x19, rfl, -, h⟩
    obtain ⟨-, b, rfl, hb, hB, hold⟩ := h (hd 11 (by decide))
    go_wp2
    go_ret
    exact ⟨b, 32, rfl, by omega, by omega, hB, hold⟩
  case step =>
    rintro d a w' i o ho hdi hdep ⟨x9, x10, x11, x12, x13, x14, x15, x16, x17, x18, x19, rfl, h, hz⟩
    have h11 : i < 11 → d 11 = false := fun hi => by
      cases e : d 11 with
      | false => rfl
      | true => have := (hz e).1 i hi; rw [hdi] at this; cases this
    clear hz
    rcases i with _ | _ | _ | _ | _ | _ | _ | _ | _ | _ | _ | _ | i
    · obtain rfl := Option.some.inj ho
      replace h := h (h11 (by decide))
      refine .inl ?_
      go_simp
      refine ⟨_, _, _, _, _, _, _, _, _, _, _, rfl, fun _ => ?_, fun e => absurd (e.symm.trans (by simpa using h11 (by decide))) (by decide)⟩
      exact ⟨h.key, h.non, h.old, h.sz, fun _ => rfl, fun e => h.e1 (by simpa using e), fun e => h.e2 (by simpa using e), fun e => h.e3 (by simpa using e), fun e => h.e4 (by simpa using e), fun e => h.e5 (by simpa using e), fun e => h.e6 (by simpa using e), fun e => h.e7 (by simpa using e), fun e => h.e8 (by simpa using e), fun e => h.e9 (by simpa using e), fun e => h.e10 (by simpa using e)⟩
    · obtain rfl := Option.some.inj ho
      replace h := h (h11 (by decide))
      refine .inl ?_
      go_simp
      refine ⟨_, _, _, _, _, _, _, _, _, _, _, rfl, fun _ => ?_, fun e => absurd (e.symm.trans (by simpa using h11 (by decide))) (by decide)⟩
      exact ⟨h.key, h.non, h.old, h.sz, fun e => h.e0 (by simpa using e), fun _ => rfl, fun e => h.e2 (by simpa using e), fun e => h.e3 (by simpa using e), fun e => h.e4 (by simpa using e), fun e => h.e5 (by simpa using e), fun e => h.e6 (by simpa using e), fun e => h.e7 (by simpa using e), fun e => h.e8 (by simpa using e), fun e => h.e9 (by simpa using e), fun e => h.e10 (by simpa using e)⟩
    · obtain rfl := Option.some.inj ho
      replace h := h (h11 (by decide))
      refine .inl ?_
      go_simp
      refine ⟨_, _, _, _, _, _, _, _, _, _, _, rfl, fun _ => ?_, fun e => absurd (e.symm.trans (by simpa using h11 (by decide))) (by decide)⟩
      exact ⟨h.key, h.non, h.old, h.sz, fun e => h.e0 (by simpa using e), fun e => h.e1 (by simpa using e), fun _ => rfl, fun e => h.e3 (by simpa using e), fun e => h.e4 (by simpa using e), fun e => h.e5 (by simpa using e), fun e => h.e6 (by simpa using e), fun e => h.e7 (by simpa using e), fun e => h.e8 (by simpa using e), fun e => h.e9 (by simpa using e), fun e => h.e10 (by simpa using e)⟩
    · obtain rfl := Option.some.inj ho
      replace h := h (h11 (by decide))
      have d2 := hdep ⟨2, .data⟩ (by simp) rfl
      obtain rfl := h.e2 d2
      refine .inl ?_
      go_simp
      refine ⟨_, _, _, _, _, _, _, _, _, _, _, rfl, fun _ => ?_, fun e => absurd (e.symm.trans (by simpa using h11 (by decide))) (by decide)⟩
      exact ⟨h.key, h.non, h.old, h.sz, fun e => h.e0 (by simpa using e), fun e => h.e1 (by simpa using e), fun e => h.e2 (by simpa using e), fun _ => rfl, fun e => h.e4 (by simpa using e), fun e => h.e5 (by simpa using e), fun e => h.e6 (by simpa using e), fun e => h.e7 (by simpa using e), fun e => h.e8 (by simpa using e), fun e => h.e9 (by simpa using e), fun e => h.e10 (by simpa using e)⟩
    · obtain rfl := Option.some.inj ho
      replace h := h (h11 (by decide))
      have d3 := hdep ⟨3, .data⟩ (by simp) rfl
      obtain rfl := h.e3 d3
      have HC := Lib.hid (eight30 n1 (by omega) (by omega) w')
      refine .inl ?_
      go_wp2_with (go_at_call 30; refine HC.out.mono ?_; rintro e w2 ⟨v, rfl, hv, hb2⟩)
      have h2 := h.grown hb2
      refine ⟨_, _, _, _, _, _, _, _, _, _, _, rfl, fun _ => ?_, fun e => absurd (e.symm.trans (by simpa using h11 (by decide))) (by decide)⟩
      exact ⟨h2.key, h2.non, h2.old, h2.sz, fun e => h2.e0 (by simpa using e), fun e => h2.e1 (by simpa using e), fun e => h2.e2 (by simpa using e), fun e => h2.e3 (by simpa using e), fun _ => hv.mono h.sz, fun e => h2.e5 (by simpa using e), fun e => h2.e6 (by simpa using e), fun e => h2.e7 (by simpa using e), fun e => h2.e8 (by simpa using e), fun e => h2.e9 (by simpa using e), fun e => h2.e10 (by simpa using e)⟩
    · obtain rfl := Option.some.inj ho
      replace h := h (h11 (by decide))
      refine .inl ?_
      go_simp
      refine ⟨_, _, _, _, _, _, _, _, _, _, _, rfl, fun _ => ?_, fun e => absurd (e.symm.trans (by simpa using h11 (by decide))) (by decide)⟩
      exact ⟨h.key, h.non, h.old, h.sz, fun e => h.e0 (by simpa using e), fun e => h.e1 (by simpa using e), fun e => h.e2 (by simpa using e), fun e => h.e3 (by simpa using e), fun e => h.e4 (by simpa using e), fun _ => rfl, fun e => h.e6 (by simpa using e), fun e => h.e7 (by simpa using e), fun e => h.e8 (by simpa using e), fun e => h.e9 (by simpa using e), fun e => h.e10 (by simpa using e)⟩
    · obtain rfl := Option.some.inj ho
      replace h := h (h11 (by decide))
      refine .inl ?_
      go_simp
      refine ⟨_, _, _, _, _, _, _, _, _, _, _, rfl, fun _ => ?_, fun e => absurd (e.symm.trans (by simpa using h11 (by decide))) (by decide)⟩
      exact ⟨h.key, h.non, h.old, h.sz, fun e => h.e0 (by simpa using e), fun e => h.e1 (by simpa using e), fun e => h.e2 (by simpa using e), fun e => h.e3 (by simpa using e), fun e => h.e4 (by simpa using e), fun e => h.e5 (by simpa using e), fun _ => rfl, fun e => h.e7 (by simpa using e), fun e => h.e8 (by simpa using e), fun e => h.e9 (by simpa using e), fun e => h.e10 (by simpa using e)⟩
    · obtain rfl := Option.some.inj ho
      replace h := h (h11 (by decide))
      have d0 := hdep ⟨0, .data⟩ (by simp) rfl
      have d1 := hdep ⟨1, .data⟩ (by simp) rfl
      have d4 := hdep ⟨4, .data⟩ (by simp) rfl
      have d5 := hdep ⟨5, .data⟩ (by simp) rfl
      have d6 := hdep ⟨6, .data⟩ (by simp) rfl
      obtain rfl := h.e0 d0
      obtain rfl := h.e1 d1
      obtain rfl := h.e5 d5
      obtain rfl := h.e6 d6
      obtain ⟨A8, c8, rfl, hc8, hm8, hr8, -⟩ := (h.e4 d4).form
      have hlaid := laid_new w' w'.heap.size rfl [(some ⟨w.heap.size, 0, none⟩, 32, K), (some ⟨w.heap.size + 1, 0, none⟩, 12, N), (A8, c8, eightS n1 8), (A1, c1, xs), (A2, c2, ys)]
        (fun i hi => five_rd hi (Rd.block h.key) (Rd.block h.non) hr8 (hr1.below h.old (Nat.le_refl _)) (hr2.below h.old (Nat.le_refl _)))
      simp only [List.map_cons, List.map_nil, length_eightS, hK, hN, hn1, hn2] at hlaid
      have h2 := h.grown ((Below.refl _ w').alloc (Nat.le_refl _) (.cells #[.slice (some ⟨w.heap.size, 0, none⟩) 32 32, .slice (some ⟨w.heap.size + 1, 0, none⟩) 12 12, .slice A8 8 c8, .slice A1 n1 c1, .slice A2 n2 c2] 26))
      have HH := Lib.hid (⟨h2, hlaid⟩ : _ ∧ _)
      clear h h2 hlaid
      rw [length_eightS]
      refine .inl ?_
      go_simp
      obtain ⟨h2, hlaid⟩ := HH.out
      refine ⟨_, _, _, _, _, _, _, _, _, _, _, rfl, fun _ => ?_, fun e => absurd (e.symm.trans (by simpa using h11 (by decide))) (by decide)⟩
      exact ⟨h2.key, h2.non, h2.old, h2.sz, fun e => h2.e0 (by simpa using e), fun e => h2.e1 (by simpa using e), fun e => h2.e2 (by simpa using e), fun e => h2.e3 (by simpa using e), fun e => h2.e4 (by simpa using e), fun e => h2.e5 (by simpa using e), fun e => h2.e6 (by simpa using e), fun _ => ⟨_, A8, c8, rfl, hlaid⟩, fun e => h2.e8 (by simpa using e), fun e => h2.e9 (by simpa using e), fun e => h2.e10 (by simpa using e)⟩
    · obtain rfl := Option.some.inj ho
      replace h := h (h11 (by decide))
      have d7 := hdep ⟨7, .data⟩ (by simp) rfl
      obtain ⟨b, A8, c8, rfl, hlaid⟩ := h.e7 d7
      have hlen : catLen [(some ⟨w.heap.size, 0, none⟩, 32, K), (some ⟨w.heap.size + 1, 0, none⟩, 12, N), (A8, c8, eightS n1 8), (A1, c1, xs), (A2, c2, ys)] 5 = 52 + n1 + n2 := by
        simp [catLen, piece, length_eightS, hK, hN, hn1, hn2]
      have HC := Lib.hid (concat23 b 5 5 _ rfl (by omega) w' hlaid (by rw [hlen]; omega) (by rw [hlen]; omega))
      have hcat : catS [(some ⟨w.heap.size, 0, none⟩, 32, K), (some ⟨w.heap.size + 1, 0, none⟩, 12, N), (A8, c8, eightS n1 8), (A1, c1, xs), (A2, c2, ys)] 5 = tagIn K N xs ys := by
        simp [catS, piece, tagIn, hn1]
      rw [hcat] at HC
      clear hlen hcat hlaid
      refine .inl ?_
      go_wp2_with (go_at_call 23; refine HC.out.mono ?_; rintro e w2 ⟨v, rfl, hv, hb2⟩)
      have h2 := h.grown hb2
      refine ⟨_, _, _, _, _, _, _, _, _, _, _, rfl, fun _ => ?_, fun e => absurd (e.symm.trans (by simpa using h11 (by decide))) (by decide)⟩
      exact ⟨h2.key, h2.non, h2.old, h2.sz, fun e => h2.e0 (by simpa using e), fun e => h2.e1 (by simpa using e), fun e => h2.e2 (by simpa using e), fun e => h2.e3 (by simpa using e), fun e => h2.e4 (by simpa using e), fun e => h2.e5 (by simpa using e), fun e => h2.e6 (by simpa using e), fun e => h2.e7 (by simpa using e), fun _ => hv.mono h.sz, fun e => h2.e9 (by simpa using e), fun e => h2.e10 (by simpa using e)⟩
    · obtain rfl := Option.some.inj ho
      replace h := h (h11 (by decide))
      have d8 := hdep ⟨8, .data⟩ (by simp) rfl
      obtain ⟨A8, c8, rfl, hc8, hm8, hr8, -⟩ := (h.e8 d8).form
      have hlen : (tagIn K N xs ys).length = 52 + n1 + n2 := by simp [tagIn, length_eightS, hK, hN, hn1, hn2]; omega
      have HC := Lib.hid (tagged13 A8 _ c8 _ w' (hT0.below h.old (Nat.le_refl _)) (hT1.below h.old (Nat.le_refl _)) hr8 rfl (by rw [hlen]; omega))
      have HH := Lib.hid h
      clear h hlen hr8 hc8
      refine .inl ?_
      go_wp2_with (go_at_call 13; refine HC.out.mono ?_; rintro e w2 ⟨rfl, hb2⟩)
      have h2 := HH.out.grown hb2
      refine ⟨_, _, _, _, _, _, _, _, _, _, _, rfl, fun _ => ?_, fun e => absurd (e.symm.trans (by simpa using h11 (by decide))) (by decide)⟩
      exact ⟨h2.key, h2.non, h2.old, h2.sz, fun e => h2.e0 (by simpa using e), fun e => h2.e1 (by simpa using e), fun e => h2.e2 (by simpa using e), fun e => h2.e3 (by simpa using e), fun e => h2.e4 (by simpa using e), fun e => h2.e5 (by simpa using e), fun e => h2.e6 (by simpa using e), fun e => h2.e7 (by simpa using e), fun e => h2.e8 (by simpa using e), fun _ => rfl, fun e => h2.e10 (by simpa using e)⟩
    · obtain rfl := Option.some.inj ho
      replace h := h (h11 (by decide))
      have h2 := h.grown ((Below.refl _ w').alloc (Nat.le_refl _) (.cells ((zeroB 32).map Y).toArray 33))
      have hsz := h.sz
      have HH := Lib.hid h2
      clear h2
      refine .inl ?_
      go_simp
      have h2 := HH.out
      refine ⟨_, _, _, _, _, _, _, _, _, _, _, rfl, fun _ => ?_, fun e => absurd (e.symm.trans (by simpa using h11 (by decide))) (by decide)⟩
      exact ⟨h2.key, h2.non, h2.old, h2.sz, fun e => h2.e0 (by simpa using e), fun e => h2.e1 (by simpa using e), fun e => h2.e2 (by simpa using e), fun e => h2.e3 (by simpa using e), fun e => h2.e4 (by simpa using e), fun e => h2.e5 (by simpa using e), fun e => h2.e6 (by simpa using e), fun e => h2.e7 (by simpa using e), fun e => h2.e8 (by simpa using e), fun e => h2.e9 (by simpa using e), fun _ => ⟨_, rfl, hsz, Blk.new w' 33 _⟩⟩
    · obtain rfl := Option.some.inj ho
      have hall : ∀ j, j < 11 → d j = true := fun j hj => by
        rcases j with _ | _ | _ | _ | _ | _ | _ | _ | _ | _ | _ | j
        all_goals first | omega | exact hdep ⟨_, .phase⟩ (by simp) rfl
      replace h := h hdi
      obtain ⟨b, rfl, hgb, hblk⟩ := h.e10 (hall 10 (by decide))
      obtain rfl := h.e9 (hall 9 (by decide))
      refine .inl ?_
      refine wp_store_row 33 _ _ rfl b _ rfl rfl 33 _ hblk HS33.out HLZ.out HSA.out ?_
      refine ⟨_, _, _, _, _, _, _, _, _, _, _, rfl, fun e => by simp at e, fun _ => ⟨fun j hj => by simp [hall j hj], b, rfl, hgb, setRow_heap _ _ _ _ 33 _ hblk, below_setRow h.old (by omega) _⟩⟩
    · simp at ho
end Go.Proofs.YtbmjjmianhjfiaaDoor
