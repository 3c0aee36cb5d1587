/- What Open returns at a text of 16 to 65552 bytes. -/
import Derived.Test.YtbmjjmianhjfiaaDoorSeal
import Derived.Test.YtbmjjmianhjfiaaDoorEqual
namespace Go.Proofs.YtbmjjmianhjfiaaDoor
open Go.RowKit
attribute [local irreducible] sumS tagged

/-- ys is as long as a sealed text may be and ends with its tag. -/
def okS (K N xs ys : List (BitVec 8)) : Prop := 16 ≤ ys.length ∧ ys.length ≤ 65552 ∧ ys.drop (ys.length - 16) = tagS K N xs (ys.take (ys.length - 16))
def openS (K N ys : List (BitVec 8)) : List (BitVec 8) := streamS K N (ys.take (ys.length - 16))

structure In14 (K N xs ys : List (BitVec 8)) (g n1 n2 m : Nat) (A1 A2 : Option Addr) (c1 c2 : Nat) (q : Bool) (w0 : World) (d : Nat → Bool) (x14 x15 x16 x17 x18 x19 x20 x21 x22 x23 x24 x25 x26 x27 x28 x29 x30 x31 x32 x33 : Value) (w : World) : Prop where
  key : Blk w g 23 (K.map Y)
  non : Blk w (g + 1) 25 (N.map Y)
  old : Below w0.heap.size w0 w
  sz : g + 2 ≤ w.heap.size
  e0 : d 0 = true → x14 = .int .i64 m
  e1 : d 1 = true → x15 = .bool false
  e2 : d 2 = true → x16 = .bool false
  e3 : d 3 = true → x17 = .int .i64 m
  e4 : d 4 = true → x18 = .bool false
  e5 : d 5 = true → x19 = .bool false
  e6 : d 6 = true → x20 = .bool false
  e7 : d 7 = true → x21 = .slice A2 n2 c2
  e8 : d 8 = true → x22 = .int .i64 m
  e9 : d 9 = true → x23 = .slice (A2.map (·.add m)) 16 (c2 - m)
  e10 : d 10 = true → x24 = .agg (K.map Y).toArray
  e11 : d 11 = true → x25 = .agg (N.map Y).toArray
  e12 : d 12 = true → x26 = .slice A1 n1 c1
  e13 : d 13 = true → x27 = .slice A2 n2 c2
  e14 : d 14 = true → x28 = .int .i64 m
  e15 : d 15 = true → x29 = .slice A2 m c2
  e16 : d 16 = true → ∃ b c, x30 = .slice (some ⟨b, 0, none⟩) 16 c ∧ Blk w b 33 ((tagged (tagIn K N xs ys)).map Y)
  e17 : d 17 = true → x31 = .bool q
  e18 : d 18 = true → x32 = .bool (!q)
  e19 : d 19 = true → x33 = .bool (!q)

theorem In14.grown {K N xs ys : List (BitVec 8)} {g n1 n2 m : Nat} {A1 A2 : Option Addr} {c1 c2 : Nat} {q : Bool} {w0 w w' : World} {d : Nat → Bool} {x14 x15 x16 x17 x18 x19 x20 x21 x22 x23 x24 x25 x26 x27 x28 x29 x30 x31 x32 x33 : Value}
    (h : In14 K N xs ys g n1 n2 m A1 A2 c1 c2 q w0 d x14 x15 x16 x17 x18 x19 x20 x21 x22 x23 x24 x25 x26 x27 x28 x29 x30 x31 x32 x33 w) (hb : Below w.heap.size w w') : In14 K N xs ys g n1 n2 m A1 A2 c1 c2 q w0 d x14 x15 x16 x17 x18 x19 x20 x21 x22 x23 x24 x25 x26 x27 x28 x29 x30 x31 x32 x33 w' :=
  ⟨h.key.kept hb, h.non.kept hb, h.old.trans (hb.mono h.old.size), Nat.le_trans h.sz hb.size, h.e0, h.e1, h.e2, h.e3, h.e4, h.e5, h.e6, h.e7, h.e8, h.e9, h.e10, h.e11, h.e12, h.e13, h.e14, h.e15, fun e => by obtain ⟨b, c, h1, h2⟩ := h.e16 e; exact ⟨b, c, h1, h2.kept hb⟩, h.e17, h.e18, h.e19⟩

def Inv14 (K N xs ys : List (BitVec 8)) (g n1 n2 m : Nat) (A1 A2 : Option Addr) (c1 c2 : Nat) (q : Bool) (w0 : World) (d : Nat → Bool) (a : Act) (w : World) : Prop :=
  ∃ x14 x15 x16 x17 x18 x19 x20 x21 x22 x23 x24 x25 x26 x27 x28 x29 x30 x31 x32 x33, a = { tmps := #[.agg (K.map Y).toArray, .agg (N.map Y).toArray, .slice A1 n1 c1, .slice A2 n2 c2, .pointer (some ⟨g, 0, none⟩), .pointer (some ⟨g + 1, 0, none⟩), undef, undef, .slice none 0 0, .int .i64 0, .int .i64 m, .slice A2 n2 c2, .int .i64 n2, .int .i64 m,
      x14, x15, x16, x17, x18, x19, x20, x21, x22, x23, x24, x25, x26, x27, x28, x29, x30, x31, x32, x33, undef, undef, undef, undef, undef, undef, undef, undef], defers := [] } ∧ In14 K N xs ys g n1 n2 m A1 A2 c1 c2 q w0 d x14 x15 x16 x17 x18 x19 x20 x21 x22 x23 x24 x25 x26 x27 x28 x29 x30 x31 x32 x33 w

structure InR4 (K N zs : List (BitVec 8)) (B n2 m c2 : Nat) (A2 : Option Addr) (w0 : World) (d : Nat → Bool) (y8 y9 y34 y35 y36 y37 y38 y39 y40 y41 : Value) (w : World) : Prop where
  key : Blk w B 23 (K.map Y)
  non : Blk w (B + 1) 25 (N.map Y)
  old : Below w0.heap.size w0 w
  sz : B ≤ w.heap.size
  e0 : d 0 = true → y34 = .agg (K.map Y).toArray
  e1 : d 1 = true → y35 = .agg (N.map Y).toArray
  e2 : d 2 = true → y36 = .slice A2 n2 c2
  e3 : d 3 = true → y37 = .int .i64 m
  e4 : d 4 = true → y38 = .slice A2 m c2
  e5 : d 5 = true → ∃ v, y39 = .tuple #[v, .int .i64 0] ∧ Own w B v zs
  e6 : d 6 = true → Own w B y40 zs
  e7 : d 7 = true → y41 = .int .i64 0
  e8 : d 8 = true → Own w B y8 zs
  e9 : d 9 = true → y9 = .int .i64 0
theorem InR4.grown {K N zs : List (BitVec 8)} {B n2 m c2 : Nat} {A2 : Option Addr} {w0 w w' : World} {d : Nat → Bool} {y8 y9 y34 y35 y36 y37 y38 y39 y40 y41 : Value} (h : InR4 K N zs B n2 m c2 A2 w0 d y8 y9 y34 y35 y36 y37 y38 y39 y40 y41 w) (hb : Below w.heap.size w w') : InR4 K N zs B n2 m c2 A2 w0 d y8 y9 y34 y35 y36 y37 y38 y39 y40 y41 w' :=
  ⟨h.key.kept hb, h.non.kept hb, h.old.trans (hb.mono h.old.size), Nat.le_trans h.sz hb.size, h.e0, h.e1, h.e2, h.e3, h.e4, fun e => by obtain ⟨v, h1, h2⟩ := h.e5 e; exact ⟨v, h1, h2.below hb⟩, fun e => (h.e6 e).below hb, h.e7, fun e => (h.e8 e).below hb, h.e9⟩

def Inv10 (mk : Value → Value → Value → Value → Value → Value → Value → Value → Value → Value → Act) (R : (Nat → Bool) → Value → Value → Value → Value → Value → Value → Value → Value → Value → Value → World → Prop) (d : Nat → Bool) (a : Act) (w : World) : Prop :=
  ∃ y8 y9 y34 y35 y36 y37 y38 y39 y40 y41, a = mk y8 y9 y34 y35 y36 y37 y38 y39 y40 y41 ∧ R d y8 y9 y34 y35 y36 y37 y38 y39 y40 y41 w
theorem length_tag16 (K N xs ys : List (BitVec 8)) : ((tagged (tagIn K N xs ys)).take 16).length = 16 := by simp [length_tagged]
set_option maxRecDepth 100000 in
set_option maxHeartbeats 2000000 in
theorem open14_main (K N : List (BitVec 8)) (hK : K.length = 32) (hN : N.length = 12) (A1 A2 : Option Addr) (n1 n2 m c1 c2 : Nat) (xs zs : List (BitVec 8)) (w : World) (hT0 : Lay w 0 startS) (hT1 : Lay w 1 numbersS) (hT2 : Tab w 2 constsS)
    (hr1 : Rd w A1 xs) (hr2 : Rd w A2 zs) (hn1 : xs.length = n1) (hn2 : zs.length = n2) (hs1 : n1 ≤ 35184372088000) (hm : n2 = m + 16) (hs2 : m ≤ 65536) (hnc : n2 ≤ c2) (_hcm : c2 ≤ maxLen) :
    Calls Tryd.prog 14 #[.agg (K.map Y).toArray, .agg (N.map Y).toArray, .slice A1 n1 c1, .slice A2 n2 c2] w fun e w' =>
      (zs.drop m = tagS K N xs (zs.take m) → ∃ v, e = .returned (.tuple #[v, .int .i64 0]) ∧ Own w' w.heap.size v (streamS K N (zs.take m)) ∧ Below w.heap.size w w') ∧
      (¬ zs.drop m = tagS K N xs (zs.take m) → e = .returned (.tuple #[.slice none 0 0, .int .i64 60]) ∧ Below w.heap.size w w') := by
  have b2 := boxB w K N
  have i1 : (n2 : Int) - 16 = (m : Int) := by omega
  have i2 : IntKind.i64.wrap ((n2 : Int) - 16) = (m : Int) := by rw [IntKind.wrap_i64]; omega
  obtain ⟨ys, hys⟩ : ∃ ys, ys = zs.take m := ⟨_, rfl⟩
  obtain ⟨q, hq⟩ : ∃ q, q = decide (zs.drop m = tagS K N xs ys) := ⟨_, rfl⟩
  have HKN := Lib.hid (⟨hK, hN⟩ : _ ∧ _)
  have HTT := Lib.hid (⟨hT0, hT1⟩ : _ ∧ _)
  have kc : ¬ c2 = m := by omega
  have hrd := hr2.drop m c2 (by omega)
  rw [if_neg kc] at hrd
  have HRR : Hid (Rd w A1 xs ∧ Rd w A2 ys ∧ Rd w (A2.map (·.add m)) (zs.drop m)) := ⟨hr1, hys ▸ hr2.take m, hrd⟩
  have HLL : Hid (xs.length = n1 ∧ ys.length = m) := ⟨hn1, by rw [hys, List.length_take]; omega⟩
  have HL16 : Hid ((zs.drop m).length = 16) := by show _ = _; rw [List.length_drop]; omega
  have HQ : Hid (decide (zs.drop m = (tagged (tagIn K N xs ys)).take 16) = q) := hq.symm
  have HSZ := Lib.hid (⟨sz23 hK, sz25 hN⟩ : _ ∧ _)
  have k1 : (m : Int) ≤ 65536 := by omega
  have k2 : (0 : Int) ≤ (m : Int) := by omega
  have k3 : (m : Int) ≤ (n2 : Int) := by omega
  have k4 : n2 - m = 16 := by omega
  have k5 : (m : Int) ≤ (c2 : Int) := by omega
  have k6 : m ≤ c2 := by omega
  have k7 : m ≤ n2 := by omega
  have k8 : ¬ (65536 : Int) < (m : Int) := by omega
  have k9 : ¬ (m : Int) < 0 := by omega
  have HYS := Lib.hid hys
  have HQQ := Lib.hid hq
  have HT2 := Lib.hid hT2
  have HB := Lib.hid b2
  have start : In14 K N xs ys w.heap.size n1 n2 m A1 A2 c1 c2 q w (fun _ => false) undef undef undef undef undef undef undef undef undef undef undef undef undef undef undef undef undef undef undef undef (((w.alloc (.cells (K.map Y).toArray 23)).alloc (.cells (N.map Y).toArray 25)).drewN 1) :=
    ⟨(boxK w K N).drewN 1, (boxN w K N).drewN 1, below_drewN b2 1, by simp, (nomatch ·), (nomatch ·), (nomatch ·), (nomatch ·), (nomatch ·), (nomatch ·), (nomatch ·), (nomatch ·), (nomatch ·), (nomatch ·), (nomatch ·), (nomatch ·), (nomatch ·), (nomatch ·), (nomatch ·), (nomatch ·), (nomatch ·), (nomatch ·), (nomatch ·), (nomatch ·)⟩
  have HST := Lib.hid start
  have HM := Lib.hid hm
  clear hK hN hT0 hT1 hT2 hr1 hr2 hn1 hn2 hys hq b2 start hm hrd
  go_enter Tryd.func14, Tryd.ntmps14
  go_wp2
  refine wp_region_inv (Inv14 K N xs ys w.heap.size n1 n2 m A1 A2 c1 c2 q w) (by kernel_rfl) ?up ?start ?step ?fin
  case up => exact up_of (by kernel_rfl)
  case start => exact ⟨_, _, _, _, _, _, _, _, _, _, _, _, _, _, _, _, _, _, _, _, rfl, HST.out⟩
  case fin =>
    rintro d a w' hd ⟨x14, x15, x16, x17, x18, x19, x20, x21, x22, x23, x24, x25, x26, x27, x28, x29, x30, x31, x32, x33, rfl, h⟩
    obtain rfl := h.e19 (hd 19 (by decide))
    have HH := Lib.hid h
    clear h
    by_cases hz : zs.drop m = tagS K N xs ys
    · obtain rfl : q = true := by rw [HQQ.out]; exact decide_eq_true hz
      go_wp2
      have hkey := HH.out.key
      have hnon := HH.out.non
      have hold := HH.out.old
      have hszz := HH.out.sz
      clear HH
      refine wp_region_inv (Inv10 (fun y8 y9 y34 y35 y36 y37 y38 y39 y40 y41 => { tmps := #[.agg (K.map Y).toArray, .agg (N.map Y).toArray, .slice A1 n1 c1, .slice A2 n2 c2, .pointer (some ⟨w.heap.size, 0, none⟩), .pointer (some ⟨w.heap.size + 1, 0, none⟩), undef, undef, y8, y9, .int .i64 m, .slice A2 n2 c2, .int .i64 n2, .int .i64 m,
        x14, x15, x16, x17, x18, x19, x20, x21, x22, x23, x24, x25, x26, x27, x28, x29, x30, x31, x32, .bool !true, y34, y35, y36, y37, y38, y39, y40, y41], defers := [] }) (InR4 K N (streamS K N ys) w.heap.size n2 m c2 A2 w)) (by kernel_rfl) ?up4 ?start4 ?step4 ?fin4
      case up4 => exact up_of (by kernel_rfl)
      case start4 => exact ⟨_, _, _, _, _, _, _, _, _, _, rfl, hkey.drewN 1, hnon.drewN 1, below_drewN hold 1, by show w.heap.size ≤ _; simp; omega, (nomatch ·), (nomatch ·), (nomatch ·), (nomatch ·), (nomatch ·), (nomatch ·), (nomatch ·), (nomatch ·), (nomatch ·), (nomatch ·)⟩
      case fin4 =>
        rintro d2 a w2 hd2 ⟨y8, y9, y34, y35, y36, y37, y38, y39, y40, y41, rfl, h⟩
        obtain rfl := h.e9 (hd2 9 (by decide))
        have hv := h.e8 (hd2 8 (by decide))
        have ho2 := h.old
        clear h hkey hnon hold
        go_wp2
        go_ret2
        exact ⟨fun _ => ⟨_, rfl, HYS.out ▸ hv, ho2⟩, fun hn => absurd (by rw [← HYS.out]; exact hz) hn⟩
      case step4 =>
        rintro d2 a w2 i o ho hdi hdep ⟨y8, y9, y34, y35, y36, y37, y38, y39, y40, y41, rfl, h⟩
        have dep : ∀ j, (o.after.toList.any fun e => e.on == j && Region.binds .any e) = true → d2 j = true := fun j hj => by
          obtain ⟨e, he, h1⟩ := List.any_eq_true.1 hj
          simp only [Bool.and_eq_true, beq_iff_eq] at h1
          exact h1.1 ▸ hdep e (Array.mem_toList_iff.1 he) h1.2
        clear hkey hnon hold
        rcases i with _ | _ | _ | _ | _ | _ | _ | _ | _ | _ | i
        · obtain rfl := Option.some.inj ho
          have HH := Lib.hid h
          clear h
          refine .inl ?_
          refine wp_load_row 23 _ rfl w.heap.size rfl 23 _ (0, 0) _ HH.out.key Tryd.underlying23 rfl HSZ.out.1 ?_
          have h := HH.out
          exact ⟨_, _, _, _, _, _, _, _, _, _, rfl, h.key, h.non, h.old, h.sz, fun _ => rfl, fun e => h.e1 (by simpa using e), fun e => h.e2 (by simpa using e), fun e => h.e3 (by simpa using e), fun e => h.e4 (by simpa using e), fun e => h.e5 (by simpa using e), fun e => h.e6 (by simpa using e), fun e => h.e7 (by simpa using e), fun e => h.e8 (by simpa using e), fun e => h.e9 (by simpa using e)⟩
        · obtain rfl := Option.some.inj ho
          have HH := Lib.hid h
          clear h
          refine .inl ?_
          refine wp_load_row 25 _ rfl (w.heap.size + 1) rfl 25 _ (0, 0) _ HH.out.non Tryd.underlying25 rfl HSZ.out.2 ?_
          have h := HH.out
          exact ⟨_, _, _, _, _, _, _, _, _, _, rfl, h.key, h.non, h.old, h.sz, fun e => h.e0 (by simpa using e), fun _ => rfl, fun e => h.e2 (by simpa using e), fun e => h.e3 (by simpa using e), fun e => h.e4 (by simpa using e), fun e => h.e5 (by simpa using e), fun e => h.e6 (by simpa using e), fun e => h.e7 (by simpa using e), fun e => h.e8 (by simpa using e), fun e => h.e9 (by simpa using e)⟩
        · obtain rfl := Option.some.inj ho
          have HH := Lib.hid h
          clear h
          refine .inl ?_
          go_simp
          have h := HH.out
          exact ⟨_, _, _, _, _, _, _, _, _, _, rfl, h.key, h.non, h.old, h.sz, fun e => h.e0 (by simpa using e), fun e => h.e1 (by simpa using e), fun _ => rfl, fun e => h.e3 (by simpa using e), fun e => h.e4 (by simpa using e), fun e => h.e5 (by simpa using e), fun e => h.e6 (by simpa using e), fun e => h.e7 (by simpa using e), fun e => h.e8 (by simpa using e), fun e => h.e9 (by simpa using e)⟩
        · obtain rfl := Option.some.inj ho
          have HH := Lib.hid h
          clear h
          refine .inl ?_
          go_simp
          have h := HH.out
          exact ⟨_, _, _, _, _, _, _, _, _, _, rfl, h.key, h.non, h.old, h.sz, fun e => h.e0 (by simpa using e), fun e => h.e1 (by simpa using e), fun e => h.e2 (by simpa using e), fun _ => rfl, fun e => h.e4 (by simpa using e), fun e => h.e5 (by simpa using e), fun e => h.e6 (by simpa using e), fun e => h.e7 (by simpa using e), fun e => h.e8 (by simpa using e), fun e => h.e9 (by simpa using e)⟩
        · obtain rfl := Option.some.inj ho
          have d2 := dep 2 (by kernel_rfl)
          obtain rfl := h.e2 d2
          have d3 := dep 3 (by kernel_rfl)
          obtain rfl := h.e3 d3
          have HH := Lib.hid h
          clear h
          refine .inl ?_
          go_simp
          have h := HH.out
          exact ⟨_, _, _, _, _, _, _, _, _, _, rfl, h.key, h.non, h.old, h.sz, fun e => h.e0 (by simpa using e), fun e => h.e1 (by simpa using e), fun e => h.e2 (by simpa using e), fun e => h.e3 (by simpa using e), fun _ => rfl, fun e => h.e5 (by simpa using e), fun e => h.e6 (by simpa using e), fun e => h.e7 (by simpa using e), fun e => h.e8 (by simpa using e), fun e => h.e9 (by simpa using e)⟩
        · obtain rfl := Option.some.inj ho
          have d0 := dep 0 (by kernel_rfl)
          obtain rfl := h.e0 d0
          have d1 := dep 1 (by kernel_rfl)
          obtain rfl := h.e1 d1
          have d4 := dep 4 (by kernel_rfl)
          obtain rfl := h.e4 d4
          have HC := Lib.hid (Stream15 K N HKN.out.1 HKN.out.2 A2 m c2 ys w2 (HT2.out.below h.old (Nat.le_refl _)) (HRR.out.2.1.below h.old (Nat.le_refl _)) HLL.out.2 (by omega))
          have HH := Lib.hid h
          clear h
          refine .inl ?_
          go_wp2_with (go_at_call 15; with_reducible refine HC.out.mono ?_; rintro e w3 ⟨v, rfl, hv, hb3⟩)
          have h2 := HH.out.grown hb3
          have hB := HH.out.sz
          exact ⟨_, _, _, _, _, _, _, _, _, _, rfl, h2.key, h2.non, h2.old, h2.sz, fun e => h2.e0 (by simpa using e), fun e => h2.e1 (by simpa using e), fun e => h2.e2 (by simpa using e), fun e => h2.e3 (by simpa using e), fun e => h2.e4 (by simpa using e), fun _ => ⟨v, rfl, hv.mono hB⟩, fun e => h2.e6 (by simpa using e), fun e => h2.e7 (by simpa using e), fun e => h2.e8 (by simpa using e), fun e => h2.e9 (by simpa using e)⟩
        · obtain rfl := Option.some.inj ho
          have d5 := dep 5 (by kernel_rfl)
          obtain ⟨v, rfl, hv⟩ := h.e5 d5
          have HV := Lib.hid hv
          clear hv
          have HH := Lib.hid h
          clear h
          refine .inl ?_
          go_simp
          have h := HH.out
          exact ⟨_, _, _, _, _, _, _, _, _, _, rfl, h.key, h.non, h.old, h.sz, fun e => h.e0 (by simpa using e), fun e => h.e1 (by simpa using e), fun e => h.e2 (by simpa using e), fun e => h.e3 (by simpa using e), fun e => h.e4 (by simpa using e), fun e => h.e5 (by simpa using e), fun _ => HV.out, fun e => h.e7 (by simpa using e), fun e => h.e8 (by simpa using e), fun e => h.e9 (by simpa using e)⟩
        · obtain rfl := Option.some.inj ho
          have d5 := dep 5 (by kernel_rfl)
          obtain ⟨v, rfl, hv⟩ := h.e5 d5
          clear hv
          have HH := Lib.hid h
          clear h
          refine .inl ?_
          go_simp
          have h := HH.out
          exact ⟨_, _, _, _, _, _, _, _, _, _, rfl, h.key, h.non, h.old, h.sz, fun e => h.e0 (by simpa using e), fun e => h.e1 (by simpa using e), fun e => h.e2 (by simpa using e), fun e => h.e3 (by simpa using e), fun e => h.e4 (by simpa using e), fun e => h.e5 (by simpa using e), fun e => h.e6 (by simpa using e), fun _ => rfl, fun e => h.e8 (by simpa using e), fun e => h.e9 (by simpa using e)⟩
        · obtain rfl := Option.some.inj ho
          have d6 := dep 6 (by kernel_rfl)
          have hv := h.e6 d6
          have HV := Lib.hid hv
          clear hv
          have HH := Lib.hid h
          clear h
          refine .inl ?_
          go_simp
          have h := HH.out
          exact ⟨_, _, _, _, _, _, _, _, _, _, rfl, h.key, h.non, h.old, h.sz, fun e => h.e0 (by simpa using e), fun e => h.e1 (by simpa using e), fun e => h.e2 (by simpa using e), fun e => h.e3 (by simpa using e), fun e => h.e4 (by simpa using e), fun e => h.e5 (by simpa using e), fun e => h.e6 (by simpa using e), fun e => h.e7 (by simpa using e), fun _ => HV.out, fun e => h.e9 (by simpa using e)⟩
        · obtain rfl := Option.some.inj ho
          have d7 := dep 7 (by kernel_rfl)
          obtain rfl := h.e7 d7
          have HH := Lib.hid h
          clear h
          refine .inl ?_
          go_simp
          have h := HH.out
          exact ⟨_, _, _, _, _, _, _, _, _, _, rfl, h.key, h.non, h.old, h.sz, fun e => h.e0 (by simpa using e), fun e => h.e1 (by simpa using e), fun e => h.e2 (by simpa using e), fun e => h.e3 (by simpa using e), fun e => h.e4 (by simpa using e), fun e => h.e5 (by simpa using e), fun e => h.e6 (by simpa using e), fun e => h.e7 (by simpa using e), fun e => h.e8 (by simpa using e), fun _ => rfl⟩
        · simp at ho

    · obtain rfl : q = false := by rw [HQQ.out]; exact decide_eq_false hz
      go_wp2
      go_ret2
      exact ⟨fun h => absurd (by rw [HYS.out]; exact h) hz, fun _ => ⟨rfl, HH.out.old⟩⟩
  case step =>
    rintro d a w' i o ho hdi hdep ⟨x14, x15, x16, x17, x18, x19, x20, x21, x22, x23, x24, x25, x26, x27, x28, x29, x30, x31, x32, x33, rfl, h⟩
    have dep : ∀ j, (o.after.toList.any fun e => e.on == j && Region.binds .any e) = true → d j = true := fun j hj => by
      obtain ⟨e, he, h1⟩ := List.any_eq_true.1 hj
      simp only [Bool.and_eq_true, beq_iff_eq] at h1
      exact h1.1 ▸ hdep e (Array.mem_toList_iff.1 he) h1.2
    rcases i with _ | _ | _ | _ | _ | _ | _ | _ | _ | _ | _ | _ | _ | _ | _ | _ | _ | _ | _ | _ | i
    · obtain rfl := Option.some.inj ho
      have HH := Lib.hid h
      clear h
      refine .inl ?_
      go_simp
      have h := HH.out
      exact ⟨_, _, _, _, _, _, _, _, _, _, _, _, _, _, _, _, _, _, _, _, rfl, h.key, h.non, h.old, h.sz, fun _ => rfl, fun e => h.e1 (by simpa using e), fun e => h.e2 (by simpa using e), fun e => h.e3 (by simpa using e), fun e => h.e4 (by simpa using e), fun e => h.e5 (by simpa using e), fun e => h.e6 (by simpa using e), fun e => h.e7 (by simpa using e), fun e => h.e8 (by simpa using e), fun e => h.e9 (by simpa using e), fun e => h.e10 (by simpa using e), fun e => h.e11 (by simpa using e), fun e => h.e12 (by simpa using e), fun e => h.e13 (by simpa using e), fun e => h.e14 (by simpa using e), fun e => h.e15 (by simpa using e), fun e => h.e16 (by simpa using e), fun e => h.e17 (by simpa using e), fun e => h.e18 (by simpa using e), fun e => h.e19 (by simpa using e)⟩
    · obtain rfl := Option.some.inj ho
      have d0 := dep 0 (by kernel_rfl)
      obtain rfl := h.e0 d0
      have HH := Lib.hid h
      clear h
      refine .inl ?_
      go_simp
      have h := HH.out
      exact ⟨_, _, _, _, _, _, _, _, _, _, _, _, _, _, _, _, _, _, _, _, rfl, h.key, h.non, h.old, h.sz, fun e => h.e0 (by simpa using e), fun _ => rfl, fun e => h.e2 (by simpa using e), fun e => h.e3 (by simpa using e), fun e => h.e4 (by simpa using e), fun e => h.e5 (by simpa using e), fun e => h.e6 (by simpa using e), fun e => h.e7 (by simpa using e), fun e => h.e8 (by simpa using e), fun e => h.e9 (by simpa using e), fun e => h.e10 (by simpa using e), fun e => h.e11 (by simpa using e), fun e => h.e12 (by simpa using e), fun e => h.e13 (by simpa using e), fun e => h.e14 (by simpa using e), fun e => h.e15 (by simpa using e), fun e => h.e16 (by simpa using e), fun e => h.e17 (by simpa using e), fun e => h.e18 (by simpa using e), fun e => h.e19 (by simpa using e)⟩
    · obtain rfl := Option.some.inj ho
      have d1 := dep 1 (by kernel_rfl)
      obtain rfl := h.e1 d1
      have HH := Lib.hid h
      clear h
      refine .inl ?_
      go_simp
      have h := HH.out
      exact ⟨_, _, _, _, _, _, _, _, _, _, _, _, _, _, _, _, _, _, _, _, rfl, h.key, h.non, h.old, h.sz, fun e => h.e0 (by simpa using e), fun e => h.e1 (by simpa using e), fun _ => rfl, fun e => h.e3 (by simpa using e), fun e => h.e4 (by simpa using e), fun e => h.e5 (by simpa using e), fun e => h.e6 (by simpa using e), fun e => h.e7 (by simpa using e), fun e => h.e8 (by simpa using e), fun e => h.e9 (by simpa using e), fun e => h.e10 (by simpa using e), fun e => h.e11 (by simpa using e), fun e => h.e12 (by simpa using e), fun e => h.e13 (by simpa using e), fun e => h.e14 (by simpa using e), fun e => h.e15 (by simpa using e), fun e => h.e16 (by simpa using e), fun e => h.e17 (by simpa using e), fun e => h.e18 (by simpa using e), fun e => h.e19 (by simpa using e)⟩
    · obtain rfl := Option.some.inj ho
      have d2 := dep 2 (by kernel_rfl)
      obtain rfl := h.e2 d2
      have HH := Lib.hid h
      clear h
      refine .inl ?_
      go_simp
      have h := HH.out
      exact ⟨_, _, _, _, _, _, _, _, _, _, _, _, _, _, _, _, _, _, _, _, rfl, h.key, h.non, h.old, h.sz, fun e => h.e0 (by simpa using e), fun e => h.e1 (by simpa using e), fun e => h.e2 (by simpa using e), fun _ => rfl, fun e => h.e4 (by simpa using e), fun e => h.e5 (by simpa using e), fun e => h.e6 (by simpa using e), fun e => h.e7 (by simpa using e), fun e => h.e8 (by simpa using e), fun e => h.e9 (by simpa using e), fun e => h.e10 (by simpa using e), fun e => h.e11 (by simpa using e), fun e => h.e12 (by simpa using e), fun e => h.e13 (by simpa using e), fun e => h.e14 (by simpa using e), fun e => h.e15 (by simpa using e), fun e => h.e16 (by simpa using e), fun e => h.e17 (by simpa using e), fun e => h.e18 (by simpa using e), fun e => h.e19 (by simpa using e)⟩
    · obtain rfl := Option.some.inj ho
      have d2 := dep 2 (by kernel_rfl)
      obtain rfl := h.e2 d2
      have d3 := dep 3 (by kernel_rfl)
      obtain rfl := h.e3 d3
      have HH := Lib.hid h
      clear h
      refine .inl ?_
      go_simp
      have h := HH.out
      exact ⟨_, _, _, _, _, _, _, _, _, _, _, _, _, _, _, _, _, _, _, _, rfl, h.key, h.non, h.old, h.sz, fun e => h.e0 (by simpa using e), fun e => h.e1 (by simpa using e), fun e => h.e2 (by simpa using e), fun e => h.e3 (by simpa using e), fun _ => congrArg Value.bool (decide_eq_false (by omega)), fun e => h.e5 (by simpa using e), fun e => h.e6 (by simpa using e), fun e => h.e7 (by simpa using e), fun e => h.e8 (by simpa using e), fun e => h.e9 (by simpa using e), fun e => h.e10 (by simpa using e), fun e => h.e11 (by simpa using e), fun e => h.e12 (by simpa using e), fun e => h.e13 (by simpa using e), fun e => h.e14 (by simpa using e), fun e => h.e15 (by simpa using e), fun e => h.e16 (by simpa using e), fun e => h.e17 (by simpa using e), fun e => h.e18 (by simpa using e), fun e => h.e19 (by simpa using e)⟩
    · obtain rfl := Option.some.inj ho
      have d2 := dep 2 (by kernel_rfl)
      obtain rfl := h.e2 d2
      have d4 := dep 4 (by kernel_rfl)
      obtain rfl := h.e4 d4
      have HH := Lib.hid h
      clear h
      refine .inl ?_
      go_simp
      have h := HH.out
      exact ⟨_, _, _, _, _, _, _, _, _, _, _, _, _, _, _, _, _, _, _, _, rfl, h.key, h.non, h.old, h.sz, fun e => h.e0 (by simpa using e), fun e => h.e1 (by simpa using e), fun e => h.e2 (by simpa using e), fun e => h.e3 (by simpa using e), fun e => h.e4 (by simpa using e), fun _ => rfl, fun e => h.e6 (by simpa using e), fun e => h.e7 (by simpa using e), fun e => h.e8 (by simpa using e), fun e => h.e9 (by simpa using e), fun e => h.e10 (by simpa using e), fun e => h.e11 (by simpa using e), fun e => h.e12 (by simpa using e), fun e => h.e13 (by simpa using e), fun e => h.e14 (by simpa using e), fun e => h.e15 (by simpa using e), fun e => h.e16 (by simpa using e), fun e => h.e17 (by simpa using e), fun e => h.e18 (by simpa using e), fun e => h.e19 (by simpa using e)⟩
    · obtain rfl := Option.some.inj ho
      have d5 := dep 5 (by kernel_rfl)
      obtain rfl := h.e5 d5
      have HH := Lib.hid h
      clear h
      refine .inl ?_
      go_simp
      have h := HH.out
      exact ⟨_, _, _, _, _, _, _, _, _, _, _, _, _, _, _, _, _, _, _, _, rfl, h.key, h.non, h.old, h.sz, fun e => h.e0 (by simpa using e), fun e => h.e1 (by simpa using e), fun e => h.e2 (by simpa using e), fun e => h.e3 (by simpa using e), fun e => h.e4 (by simpa using e), fun e => h.e5 (by simpa using e), fun _ => rfl, fun e => h.e7 (by simpa using e), fun e => h.e8 (by simpa using e), fun e => h.e9 (by simpa using e), fun e => h.e10 (by simpa using e), fun e => h.e11 (by simpa using e), fun e => h.e12 (by simpa using e), fun e => h.e13 (by simpa using e), fun e => h.e14 (by simpa using e), fun e => h.e15 (by simpa using e), fun e => h.e16 (by simpa using e), fun e => h.e17 (by simpa using e), fun e => h.e18 (by simpa using e), fun e => h.e19 (by simpa using e)⟩
    · obtain rfl := Option.some.inj ho
      have d6 := dep 6 (by kernel_rfl)
      obtain rfl := h.e6 d6
      have HH := Lib.hid h
      clear h
      refine .inl ?_
      go_simp
      have h := HH.out
      exact ⟨_, _, _, _, _, _, _, _, _, _, _, _, _, _, _, _, _, _, _, _, rfl, h.key, h.non, h.old, h.sz, fun e => h.e0 (by simpa using e), fun e => h.e1 (by simpa using e), fun e => h.e2 (by simpa using e), fun e => h.e3 (by simpa using e), fun e => h.e4 (by simpa using e), fun e => h.e5 (by simpa using e), fun e => h.e6 (by simpa using e), fun _ => rfl, fun e => h.e8 (by simpa using e), fun e => h.e9 (by simpa using e), fun e => h.e10 (by simpa using e), fun e => h.e11 (by simpa using e), fun e => h.e12 (by simpa using e), fun e => h.e13 (by simpa using e), fun e => h.e14 (by simpa using e), fun e => h.e15 (by simpa using e), fun e => h.e16 (by simpa using e), fun e => h.e17 (by simpa using e), fun e => h.e18 (by simpa using e), fun e => h.e19 (by simpa using e)⟩
    · obtain rfl := Option.some.inj ho
      have d6 := dep 6 (by kernel_rfl)
      obtain rfl := h.e6 d6
      have HH := Lib.hid h
      clear h
      refine .inl ?_
      go_simp
      have h := HH.out
      exact ⟨_, _, _, _, _, _, _, _, _, _, _, _, _, _, _, _, _, _, _, _, rfl, h.key, h.non, h.old, h.sz, fun e => h.e0 (by simpa using e), fun e => h.e1 (by simpa using e), fun e => h.e2 (by simpa using e), fun e => h.e3 (by simpa using e), fun e => h.e4 (by simpa using e), fun e => h.e5 (by simpa using e), fun e => h.e6 (by simpa using e), fun e => h.e7 (by simpa using e), fun _ => rfl, fun e => h.e9 (by simpa using e), fun e => h.e10 (by simpa using e), fun e => h.e11 (by simpa using e), fun e => h.e12 (by simpa using e), fun e => h.e13 (by simpa using e), fun e => h.e14 (by simpa using e), fun e => h.e15 (by simpa using e), fun e => h.e16 (by simpa using e), fun e => h.e17 (by simpa using e), fun e => h.e18 (by simpa using e), fun e => h.e19 (by simpa using e)⟩
    · obtain rfl := Option.some.inj ho
      have d6 := dep 6 (by kernel_rfl)
      obtain rfl := h.e6 d6
      have d7 := dep 7 (by kernel_rfl)
      obtain rfl := h.e7 d7
      have d8 := dep 8 (by kernel_rfl)
      obtain rfl := h.e8 d8
      have HH := Lib.hid h
      clear h
      refine .inl ?_
      go_simp
      have h := HH.out
      exact ⟨_, _, _, _, _, _, _, _, _, _, _, _, _, _, _, _, _, _, _, _, rfl, h.key, h.non, h.old, h.sz, fun e => h.e0 (by simpa using e), fun e => h.e1 (by simpa using e), fun e => h.e2 (by simpa using e), fun e => h.e3 (by simpa using e), fun e => h.e4 (by simpa using e), fun e => h.e5 (by simpa using e), fun e => h.e6 (by simpa using e), fun e => h.e7 (by simpa using e), fun e => h.e8 (by simpa using e), fun _ => rfl, fun e => h.e10 (by simpa using e), fun e => h.e11 (by simpa using e), fun e => h.e12 (by simpa using e), fun e => h.e13 (by simpa using e), fun e => h.e14 (by simpa using e), fun e => h.e15 (by simpa using e), fun e => h.e16 (by simpa using e), fun e => h.e17 (by simpa using e), fun e => h.e18 (by simpa using e), fun e => h.e19 (by simpa using e)⟩
    · obtain rfl := Option.some.inj ho
      have d6 := dep 6 (by kernel_rfl)
      obtain rfl := h.e6 d6
      have HH := Lib.hid h
      clear h
      refine .inl ?_
      refine wp_load_row 23 _ rfl w.heap.size rfl 23 _ (0, 0) _ HH.out.key Tryd.underlying23 rfl HSZ.out.1 ?_
      have h := HH.out
      exact ⟨_, _, _, _, _, _, _, _, _, _, _, _, _, _, _, _, _, _, _, _, rfl, h.key, h.non, h.old, h.sz, fun e => h.e0 (by simpa using e), fun e => h.e1 (by simpa using e), fun e => h.e2 (by simpa using e), fun e => h.e3 (by simpa using e), fun e => h.e4 (by simpa using e), fun e => h.e5 (by simpa using e), fun e => h.e6 (by simpa using e), fun e => h.e7 (by simpa using e), fun e => h.e8 (by simpa using e), fun e => h.e9 (by simpa using e), fun _ => rfl, fun e => h.e11 (by simpa using e), fun e => h.e12 (by simpa using e), fun e => h.e13 (by simpa using e), fun e => h.e14 (by simpa using e), fun e => h.e15 (by simpa using e), fun e => h.e16 (by simpa using e), fun e => h.e17 (by simpa using e), fun e => h.e18 (by simpa using e), fun e => h.e19 (by simpa using e)⟩
    · obtain rfl := Option.some.inj ho
      have d6 := dep 6 (by kernel_rfl)
      obtain rfl := h.e6 d6
      have HH := Lib.hid h
      clear h
      refine .inl ?_
      refine wp_load_row 25 _ rfl (w.heap.size + 1) rfl 25 _ (0, 0) _ HH.out.non Tryd.underlying25 rfl HSZ.out.2 ?_
      have h := HH.out
      exact ⟨_, _, _, _, _, _, _, _, _, _, _, _, _, _, _, _, _, _, _, _, rfl, h.key, h.non, h.old, h.sz, fun e => h.e0 (by simpa using e), fun e => h.e1 (by simpa using e), fun e => h.e2 (by simpa using e), fun e => h.e3 (by simpa using e), fun e => h.e4 (by simpa using e), fun e => h.e5 (by simpa using e), fun e => h.e6 (by simpa using e), fun e => h.e7 (by simpa using e), fun e => h.e8 (by simpa using e), fun e => h.e9 (by simpa using e), fun e => h.e10 (by simpa using e), fun _ => rfl, fun e => h.e12 (by simpa using e), fun e => h.e13 (by simpa using e), fun e => h.e14 (by simpa using e), fun e => h.e15 (by simpa using e), fun e => h.e16 (by simpa using e), fun e => h.e17 (by simpa using e), fun e => h.e18 (by simpa using e), fun e => h.e19 (by simpa using e)⟩
    · obtain rfl := Option.some.inj ho
      have d6 := dep 6 (by kernel_rfl)
      obtain rfl := h.e6 d6
      have HH := Lib.hid h
      clear h
      refine .inl ?_
      go_simp
      have h := HH.out
      exact ⟨_, _, _, _, _, _, _, _, _, _, _, _, _, _, _, _, _, _, _, _, rfl, h.key, h.non, h.old, h.sz, fun e => h.e0 (by simpa using e), fun e => h.e1 (by simpa using e), fun e => h.e2 (by simpa using e), fun e => h.e3 (by simpa using e), fun e => h.e4 (by simpa using e), fun e => h.e5 (by simpa using e), fun e => h.e6 (by simpa using e), fun e => h.e7 (by simpa using e), fun e => h.e8 (by simpa using e), fun e => h.e9 (by simpa using e), fun e => h.e10 (by simpa using e), fun e => h.e11 (by simpa using e), fun _ => rfl, fun e => h.e13 (by simpa using e), fun e => h.e14 (by simpa using e), fun e => h.e15 (by simpa using e), fun e => h.e16 (by simpa using e), fun e => h.e17 (by simpa using e), fun e => h.e18 (by simpa using e), fun e => h.e19 (by simpa using e)⟩
    · obtain rfl := Option.some.inj ho
      have d6 := dep 6 (by kernel_rfl)
      obtain rfl := h.e6 d6
      have HH := Lib.hid h
      clear h
      refine .inl ?_
      go_simp
      have h := HH.out
      exact ⟨_, _, _, _, _, _, _, _, _, _, _, _, _, _, _, _, _, _, _, _, rfl, h.key, h.non, h.old, h.sz, fun e => h.e0 (by simpa using e), fun e => h.e1 (by simpa using e), fun e => h.e2 (by simpa using e), fun e => h.e3 (by simpa using e), fun e => h.e4 (by simpa using e), fun e => h.e5 (by simpa using e), fun e => h.e6 (by simpa using e), fun e => h.e7 (by simpa using e), fun e => h.e8 (by simpa using e), fun e => h.e9 (by simpa using e), fun e => h.e10 (by simpa using e), fun e => h.e11 (by simpa using e), fun e => h.e12 (by simpa using e), fun _ => rfl, fun e => h.e14 (by simpa using e), fun e => h.e15 (by simpa using e), fun e => h.e16 (by simpa using e), fun e => h.e17 (by simpa using e), fun e => h.e18 (by simpa using e), fun e => h.e19 (by simpa using e)⟩
    · obtain rfl := Option.some.inj ho
      have d6 := dep 6 (by kernel_rfl)
      obtain rfl := h.e6 d6
      have HH := Lib.hid h
      clear h
      refine .inl ?_
      go_simp
      have h := HH.out
      exact ⟨_, _, _, _, _, _, _, _, _, _, _, _, _, _, _, _, _, _, _, _, rfl, h.key, h.non, h.old, h.sz, fun e => h.e0 (by simpa using e), fun e => h.e1 (by simpa using e), fun e => h.e2 (by simpa using e), fun e => h.e3 (by simpa using e), fun e => h.e4 (by simpa using e), fun e => h.e5 (by simpa using e), fun e => h.e6 (by simpa using e), fun e => h.e7 (by simpa using e), fun e => h.e8 (by simpa using e), fun e => h.e9 (by simpa using e), fun e => h.e10 (by simpa using e), fun e => h.e11 (by simpa using e), fun e => h.e12 (by simpa using e), fun e => h.e13 (by simpa using e), fun _ => rfl, fun e => h.e15 (by simpa using e), fun e => h.e16 (by simpa using e), fun e => h.e17 (by simpa using e), fun e => h.e18 (by simpa using e), fun e => h.e19 (by simpa using e)⟩
    · obtain rfl := Option.some.inj ho
      have d6 := dep 6 (by kernel_rfl)
      obtain rfl := h.e6 d6
      have d13 := dep 13 (by kernel_rfl)
      obtain rfl := h.e13 d13
      have d14 := dep 14 (by kernel_rfl)
      obtain rfl := h.e14 d14
      have HH := Lib.hid h
      clear h
      refine .inl ?_
      go_simp
      have h := HH.out
      exact ⟨_, _, _, _, _, _, _, _, _, _, _, _, _, _, _, _, _, _, _, _, rfl, h.key, h.non, h.old, h.sz, fun e => h.e0 (by simpa using e), fun e => h.e1 (by simpa using e), fun e => h.e2 (by simpa using e), fun e => h.e3 (by simpa using e), fun e => h.e4 (by simpa using e), fun e => h.e5 (by simpa using e), fun e => h.e6 (by simpa using e), fun e => h.e7 (by simpa using e), fun e => h.e8 (by simpa using e), fun e => h.e9 (by simpa using e), fun e => h.e10 (by simpa using e), fun e => h.e11 (by simpa using e), fun e => h.e12 (by simpa using e), fun e => h.e13 (by simpa using e), fun e => h.e14 (by simpa using e), fun _ => rfl, fun e => h.e16 (by simpa using e), fun e => h.e17 (by simpa using e), fun e => h.e18 (by simpa using e), fun e => h.e19 (by simpa using e)⟩
    · obtain rfl := Option.some.inj ho
      have d6 := dep 6 (by kernel_rfl)
      obtain rfl := h.e6 d6
      have d10 := dep 10 (by kernel_rfl)
      obtain rfl := h.e10 d10
      have d11 := dep 11 (by kernel_rfl)
      obtain rfl := h.e11 d11
      have d12 := dep 12 (by kernel_rfl)
      obtain rfl := h.e12 d12
      have d15 := dep 15 (by kernel_rfl)
      obtain rfl := h.e15 d15
      have HC := Lib.hid (tag21 K N HKN.out.1 HKN.out.2 A1 A2 n1 m c1 c2 xs ys w' (HTT.out.1.below h.old (Nat.le_refl _)) (HTT.out.2.below h.old (Nat.le_refl _)) (HRR.out.1.below h.old (Nat.le_refl _)) (HRR.out.2.1.below h.old (Nat.le_refl _)) HLL.out.1 HLL.out.2 (by omega) (by omega))
      have HH := Lib.hid h
      clear h
      refine .inl ?_
      go_wp2_with (go_at_call 21; with_reducible refine HC.out.mono ?_; rintro e w2 ⟨bt, ct, rfl, hbt, hct, hblk, hb2⟩)
      have h2 := HH.out.grown hb2
      exact ⟨_, _, _, _, _, _, _, _, _, _, _, _, _, _, _, _, _, _, _, _, rfl, h2.key, h2.non, h2.old, h2.sz, fun e => h2.e0 (by simpa using e), fun e => h2.e1 (by simpa using e), fun e => h2.e2 (by simpa using e), fun e => h2.e3 (by simpa using e), fun e => h2.e4 (by simpa using e), fun e => h2.e5 (by simpa using e), fun e => h2.e6 (by simpa using e), fun e => h2.e7 (by simpa using e), fun e => h2.e8 (by simpa using e), fun e => h2.e9 (by simpa using e), fun e => h2.e10 (by simpa using e), fun e => h2.e11 (by simpa using e), fun e => h2.e12 (by simpa using e), fun e => h2.e13 (by simpa using e), fun e => h2.e14 (by simpa using e), fun e => h2.e15 (by simpa using e), fun _ => ⟨bt, ct, rfl, hblk⟩, fun e => h2.e17 (by simpa using e), fun e => h2.e18 (by simpa using e), fun e => h2.e19 (by simpa using e)⟩
    · obtain rfl := Option.some.inj ho
      have d6 := dep 6 (by kernel_rfl)
      obtain rfl := h.e6 d6
      have d9 := dep 9 (by kernel_rfl)
      obtain rfl := h.e9 d9
      have d16 := dep 16 (by kernel_rfl)
      obtain ⟨bt, ct, rfl, hblk⟩ := h.e16 d16
      have HC := Lib.hid (equal24 _ _ 16 16 (c2 - m) ct _ _ w' (HRR.out.2.2.below h.old (Nat.le_refl _)) ((Rd.block hblk).take 16) HL16.out (length_tag16 _ _ _ _))
      rw [HQ.out] at HC
      have HH := Lib.hid h
      clear h
      refine .inl ?_
      go_wp2_with (go_at_call 24; with_reducible refine HC.out.mono ?_; rintro e w2 ⟨rfl, rfl⟩)
      have h := HH.out
      exact ⟨_, _, _, _, _, _, _, _, _, _, _, _, _, _, _, _, _, _, _, _, rfl, h.key, h.non, h.old, h.sz, fun e => h.e0 (by simpa using e), fun e => h.e1 (by simpa using e), fun e => h.e2 (by simpa using e), fun e => h.e3 (by simpa using e), fun e => h.e4 (by simpa using e), fun e => h.e5 (by simpa using e), fun e => h.e6 (by simpa using e), fun e => h.e7 (by simpa using e), fun e => h.e8 (by simpa using e), fun e => h.e9 (by simpa using e), fun e => h.e10 (by simpa using e), fun e => h.e11 (by simpa using e), fun e => h.e12 (by simpa using e), fun e => h.e13 (by simpa using e), fun e => h.e14 (by simpa using e), fun e => h.e15 (by simpa using e), fun e => h.e16 (by simpa using e), fun _ => rfl, fun e => h.e18 (by simpa using e), fun e => h.e19 (by simpa using e)⟩
    · obtain rfl := Option.some.inj ho
      have d6 := dep 6 (by kernel_rfl)
      obtain rfl := h.e6 d6
      have d17 := dep 17 (by kernel_rfl)
      obtain rfl := h.e17 d17
      have HH := Lib.hid h
      clear h
      refine .inl ?_
      go_simp
      have h := HH.out
      exact ⟨_, _, _, _, _, _, _, _, _, _, _, _, _, _, _, _, _, _, _, _, rfl, h.key, h.non, h.old, h.sz, fun e => h.e0 (by simpa using e), fun e => h.e1 (by simpa using e), fun e => h.e2 (by simpa using e), fun e => h.e3 (by simpa using e), fun e => h.e4 (by simpa using e), fun e => h.e5 (by simpa using e), fun e => h.e6 (by simpa using e), fun e => h.e7 (by simpa using e), fun e => h.e8 (by simpa using e), fun e => h.e9 (by simpa using e), fun e => h.e10 (by simpa using e), fun e => h.e11 (by simpa using e), fun e => h.e12 (by simpa using e), fun e => h.e13 (by simpa using e), fun e => h.e14 (by simpa using e), fun e => h.e15 (by simpa using e), fun e => h.e16 (by simpa using e), fun e => h.e17 (by simpa using e), fun _ => rfl, fun e => h.e19 (by simpa using e)⟩
    · obtain rfl := Option.some.inj ho
      have d6 := dep 6 (by kernel_rfl)
      obtain rfl := h.e6 d6
      have d18 := dep 18 (by kernel_rfl)
      obtain rfl := h.e18 d18
      have HH := Lib.hid h
      clear h
      refine .inl ?_
      go_simp
      have h := HH.out
      exact ⟨_, _, _, _, _, _, _, _, _, _, _, _, _, _, _, _, _, _, _, _, rfl, h.key, h.non, h.old, h.sz, fun e => h.e0 (by simpa using e), fun e => h.e1 (by simpa using e), fun e => h.e2 (by simpa using e), fun e => h.e3 (by simpa using e), fun e => h.e4 (by simpa using e), fun e => h.e5 (by simpa using e), fun e => h.e6 (by simpa using e), fun e => h.e7 (by simpa using e), fun e => h.e8 (by simpa using e), fun e => h.e9 (by simpa using e), fun e => h.e10 (by simpa using e), fun e => h.e11 (by simpa using e), fun e => h.e12 (by simpa using e), fun e => h.e13 (by simpa using e), fun e => h.e14 (by simpa using e), fun e => h.e15 (by simpa using e), fun e => h.e16 (by simpa using e), fun e => h.e17 (by simpa using e), fun e => h.e18 (by simpa using e), fun _ => rfl⟩
    · simp at ho


end Go.Proofs.YtbmjjmianhjfiaaDoor
