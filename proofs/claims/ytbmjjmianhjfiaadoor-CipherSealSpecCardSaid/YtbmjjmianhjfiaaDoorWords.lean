/- Words of 32 bits, bytes, the memory that holds them, and what is kept when other memory turns: lemmas without the program, no conditions. -/
import Derived.WalkKit
import Derived.WalkSpells
import Derived.WalkLawsBesides
import Derived.Deep.QuietTactic
import Derived.BigQuiet
import Derived.StillTailTactics
import Derived.Lib.Hide
import Derived.Maps.AppendAt
import Derived.Deep.AppendLies
import Derived.Laws.CopyOwn
namespace Go.Proofs.YtbmjjmianhjfiaaDoor
open Go Go.RowKit

/-- A word of 32 bits, as the number that a cell holds. -/
def U (x : BitVec 32) : Int := (x.toNat : Int)
/-- A byte, as the number that a cell holds. -/
def B (x : BitVec 8) : Int := (x.toNat : Int)
def W (x : BitVec 32) : Value := .int .u32 (U x)
def Y (x : BitVec 8) : Value := .int .u8 (B x)

theorem U_nonneg (x : BitVec 32) : 0 ≤ U x := Int.natCast_nonneg _
theorem U_lt (x : BitVec 32) : U x < 4294967296 := by unfold U; have := x.isLt; omega
theorem U_inj {x y : BitVec 32} (h : U x = U y) : x = y := by
  unfold U at h; exact BitVec.eq_of_toNat_eq (by omega)
theorem U_mod (x : BitVec 32) : U x % 4294967296 = U x := Int.emod_eq_of_lt (U_nonneg x) (U_lt x)
theorem U_add (x y : BitVec 32) : (U x + U y) % 4294967296 = U (x + y) := by
  unfold U; rw [BitVec.toNat_add]; omega
theorem ofInt_U (x : BitVec 32) : BitVec.ofInt 32 (U x) = x := by
  unfold U; rw [BitVec.ofInt_natCast]; simp
theorem U_xor (x y : BitVec 32) : bits .xor .u32 (U x) (U y) = U (x ^^^ y) := by
  show IntKind.u32.wrap ((BitVec.ofInt 32 (U x) ^^^ BitVec.ofInt 32 (U y)).toNat : Int) = _
  rw [ofInt_U, ofInt_U, IntKind.wrap_u32]; exact U_mod _
theorem U_and (x y : BitVec 32) : bits .and .u32 (U x) (U y) = U (x &&& y) := by
  show IntKind.u32.wrap ((BitVec.ofInt 32 (U x) &&& BitVec.ofInt 32 (U y)).toNat : Int) = _
  rw [ofInt_U, ofInt_U, IntKind.wrap_u32]; exact U_mod _
theorem U_or (x y : BitVec 32) : bits .or .u32 (U x) (U y) = U (x ||| y) := by
  show IntKind.u32.wrap ((BitVec.ofInt 32 (U x) ||| BitVec.ofInt 32 (U y)).toNat : Int) = _
  rw [ofInt_U, ofInt_U, IntKind.wrap_u32]; exact U_mod _
theorem U_shl (x : BitVec 32) (n : Nat) : U x * 2 ^ n % 4294967296 = U (x <<< n) := by
  unfold U; rw [BitVec.toNat_shiftLeft, Nat.shiftLeft_eq]; simp
theorem U_shr (x : BitVec 32) (n : Nat) : U x / 2 ^ n = U (x >>> n) := by
  unfold U; rw [BitVec.toNat_ushiftRight, Nat.shiftRight_eq_div_pow]; simp

theorem B_nonneg (x : BitVec 8) : 0 ≤ B x := Int.natCast_nonneg _
theorem B_lt (x : BitVec 8) : B x < 256 := by unfold B; have := x.isLt; omega
theorem B_inj {x y : BitVec 8} (h : B x = B y) : x = y := by
  unfold B at h; exact BitVec.eq_of_toNat_eq (by omega)
theorem B_mod (x : BitVec 8) : B x % 256 = B x := Int.emod_eq_of_lt (B_nonneg x) (B_lt x)
theorem ofInt_B (x : BitVec 8) : BitVec.ofInt 8 (B x) = x := by
  unfold B; rw [BitVec.ofInt_natCast]; simp
theorem B_xor (x y : BitVec 8) : bits .xor .u8 (B x) (B y) = B (x ^^^ y) := by
  show IntKind.u8.wrap ((BitVec.ofInt 8 (B x) ^^^ BitVec.ofInt 8 (B y)).toNat : Int) = _
  rw [ofInt_B, ofInt_B, IntKind.wrap_u8]; exact B_mod _
/-- A byte widened to a word. -/
theorem B_wide (x : BitVec 8) : B x % 4294967296 = U (x.setWidth 32) := by
  have h : (x.setWidth 32).toNat = x.toNat := by rw [BitVec.toNat_setWidth]; have := x.isLt; omega
  unfold U; rw [h]; unfold B; have := x.isLt; omega
/-- A word's least byte. -/
theorem U_byte (x : BitVec 32) : U x % 256 = B (x.setWidth 8) := by
  unfold U B; rw [BitVec.toNat_setWidth]; omega
/-- A number's least byte. -/
def byteOf (n : Int) : BitVec 8 := BitVec.ofInt 8 n
theorem byteOf_spec (n : Int) : n % 256 = B (byteOf n) := by
  unfold byteOf B; rw [BitVec.toNat_ofInt]; simp; omega

/-- Rotation to the left. -/
def rol (x : BitVec 32) (s : Nat) : BitVec 32 := x <<< s ||| x >>> (32 - s)
theorem rol_end (x : BitVec 32) (s : Nat) : bits .or .u32 (U x * 2 ^ s % 4294967296) (U x / 2 ^ (32 - s)) = U (rol x s) := by
  rw [U_shl, U_shr, U_or]; rfl
theorem ret_int {k : IntKind} {a b : Int} (h : a = b) : Ending.returned (.int k a) = .returned (.int k b) := by rw [h]

/-! ### Lists of words -/
def wd (L : List (BitVec 32)) (i : Int) : BitVec 32 := L.getD i.toNat 0
def st (L : List (BitVec 32)) (i : Int) (x : BitVec 32) : List (BitVec 32) := L.set i.toNat x
theorem length_st (L : List (BitVec 32)) (i : Int) (x : BitVec 32) : (st L i x).length = L.length := by simp [st]

/-! ### A block that is known whole -/
/-- Block g holds just these cells, of element type t. -/
def Blk (w : World) (g : Nat) (t : TypeId) (vs : List Value) : Prop := w.heap[g]? = some (.cells vs.toArray t (0, 0))

section
variable {w w' : World} {g : Nat} {t : TypeId} {vs : List Value}
theorem Blk.lt (h : Blk w g t vs) : g < w.heap.size := by
  rcases Nat.lt_or_ge g w.heap.size with hlt | hge
  · exact hlt
  · unfold Blk at h; rw [Array.getElem?_eq_none hge] at h; cases h
theorem Blk.at (h : Blk w g t vs) (i : Nat) : w.cell? ⟨g, i, none⟩ = vs[i]? := by
  rw [cell_of_row w g i _ t _ h]; simp
theorem Blk.free (h : Blk w g t vs) (i : Nat) : w.frozen? ⟨g, i, none⟩ = false := frozen_of_row w g i _ t h
theorem Blk.new (w : World) (t : TypeId) (vs : List Value) : Blk (w.alloc (.cells vs.toArray t)) w.heap.size t vs := heap_alloc_new w _
theorem Blk.drew (h : Blk w g t vs) : Blk w.drew g t vs := h
theorem Blk.drewN (h : Blk w g t vs) (n : Nat) : Blk (w.drewN n) g t vs := h
theorem Blk.alloc (h : Blk w g t vs) (o : Obj) : Blk (w.alloc o) g t vs := (Below.heap_alloc w o g h.lt).trans h
theorem Blk.put (h : Blk w g t vs) (i : Nat) (u : Value) : Blk (w.setCell ⟨g, i, none⟩ u) g t (vs.set i u) := by
  unfold Blk at h ⊢
  rw [heap_setCell_same w g _ _ t _ h]; simp
theorem Blk.far (h : Blk w g t vs) {p : Addr} (hp : g ≠ p.block) (u : Value) : Blk (w.setCell p u) g t vs := (Below.heap_setCell w p u g hp).trans h
theorem Blk.below {B : Nat} (h : Blk w g t vs) (hb : Below B w w') (hg : g < B) : Blk w' g t vs := (hb.block g hg).trans h
theorem Blk.kept (h : Blk w g t vs) (hb : Below w.heap.size w w') : Blk w' g t vs := h.below hb h.lt
theorem Blk.grown {row : Option Nat} (h : Blk w g t vs) (hb : w.grownBy w' row) (hg : some g ≠ row) : Blk w' g t vs := (hb.block g h.lt hg).trans h
end

/-- Block g holds these words. -/
def Words (w : World) (g : Nat) (t : TypeId) (L : List (BitVec 32)) : Prop := Blk w g t (L.map W)
section
variable {w w' : World} {g : Nat} {t : TypeId} {L : List (BitVec 32)}
theorem Words.cell (h : Words w g t L) (i : Int) (hi : i.toNat < L.length) : w.cell? ⟨g, i.toNat, none⟩ = some (.int .u32 (U (wd L i))) := by
  rw [Blk.at h]; simp [wd, W, hi]
theorem Words.free (h : Words w g t L) (i : Nat) : w.frozen? ⟨g, i, none⟩ = false := Blk.free h i
theorem Words.put (h : Words w g t L) (i : Int) (x : BitVec 32) : Words (w.setCell ⟨g, i.toNat, none⟩ (.int .u32 (U x))) g t (st L i x) := by
  unfold Words st; rw [List.map_set]; exact Blk.put h _ _
end

theorem W_all (L : List (BitVec 32)) : (L.map W).toArray.all (·.oneCell') = true := by
  simp [Value.oneCell', W]
theorem Y_all (L : List (BitVec 8)) : (L.map Y).toArray.all (·.oneCell') = true := by
  simp [Value.oneCell', Y]
theorem Y_one (L : List (BitVec 8)) : ∀ u ∈ L.map Y, u.oneCell' = true := by
  intro u hu; simp at hu; obtain ⟨x, _, rfl⟩ := hu; rfl

/-! ### What is kept -/
theorem only_drewN {a w : World} {row : Option Nat} (h : a.grownBy w row) (n : Nat) : a.grownBy (w.drewN n) row := ⟨h.os, h.tape, h.output, h.size, h.block⟩
theorem only_drew {a w : World} {row : Option Nat} (h : a.grownBy w row) : a.grownBy w.drew row := ⟨h.os, h.tape, h.output, h.size, h.block⟩
theorem only_alloc {a w : World} {row : Option Nat} (h : a.grownBy w row) (o : Obj) : a.grownBy (w.alloc o) row :=
  ⟨h.os, h.tape, h.output, Nat.le_trans h.size (by simp), fun i hi hne => (Below.heap_alloc w o i (Nat.lt_of_lt_of_le hi h.size)).trans (h.block i hi hne)⟩
theorem only_put {a w : World} {g : Nat} (h : a.grownBy w (some g)) {p : Addr} (hp : p.block = g ∨ a.heap.size ≤ p.block) (u : Value) : a.grownBy (w.setCell p u) (some g) :=
  ⟨h.os, h.tape, h.output, by simpa [World.setCell] using h.size, fun i hi hne => (Below.heap_setCell w p u i (by
    rintro rfl
    rcases hp with hp | hp
    · exact hne (by rw [hp])
    · omega)).trans (h.block i hi hne)⟩
theorem only_of_below {a w : World} (h : Below a.heap.size a w) (row : Option Nat) : a.grownBy w row := ⟨h.os, h.tape, h.output, h.size, fun i hi _ => h.block i hi⟩
theorem only_below {a w w' : World} {row : Option Nat} (h : a.grownBy w row) (hb : Below w.heap.size w w') : a.grownBy w' row := h.trans (only_of_below hb row)
theorem below_drewN {B : Nat} {a w : World} (h : Below B a w) (n : Nat) : Below B a (w.drewN n) := ⟨h.os, h.tape, h.output, h.size, h.block⟩
/-- A callee that turned only a block of ours. -/
theorem below_only {B : Nat} {a w w' : World} {g : Nat} (h : Below B a w) (hB : B ≤ w.heap.size) (hg : w.grownBy w' (some g)) (hb : B ≤ g) : Below B a w' :=
  h.grown hg hB (fun k e => by cases e; exact hb)

theorem forget_wp {P : Program} {c : Code} {Q : Exit → Act → World → Prop} {a : Act} {w : World} (R : World → Prop) (h : R w) (k : ∀ w', R w' → c.wp P Q a w') : c.wp P Q a w := k w h

/-- What stores to block g leave. -/
def Now (w0 : World) (g : Nat) (t : TypeId) (L : List (BitVec 32)) (w : World) : Prop := Words w g t L ∧ w0.grownBy w (some g)
section
variable {w0 w w' : World} {g : Nat} {t : TypeId} {L : List (BitVec 32)}
theorem Now.put (h : Now w0 g t L w) (i : Int) (x : BitVec 32) : Now w0 g t (st L i x) (w.setCell ⟨g, i.toNat, none⟩ (.int .u32 (U x))) := ⟨h.1.put i x, only_put h.2 (.inl rfl) _⟩
theorem Now.drew (h : Now w0 g t L w) : Now w0 g t L w.drew := ⟨h.1, only_drew h.2⟩
theorem Now.cell (h : Now w0 g t L w) (i : Int) (hi : i.toNat < L.length) : w.cell? ⟨g, i.toNat, none⟩ = some (.int .u32 (U (wd L i))) := h.1.cell i hi
theorem Now.free (h : Now w0 g t L w) (i : Nat) : w.frozen? ⟨g, i, none⟩ = false := h.1.free i
end

/-! ### Slices of bytes -/
/-- The slice that begins at A reads as these bytes. -/
def Rd (w : World) (A : Option Addr) (xs : List (BitVec 8)) : Prop :=
  0 < xs.length → ∃ b off, A = some ⟨b, off, none⟩ ∧ ∀ i, i < xs.length → w.cell? ⟨b, off + i, none⟩ = some (.int .u8 (B (xs.getD i 0)))

section
variable {w w' : World} {A : Option Addr} {xs : List (BitVec 8)}
theorem Rd.nil (w : World) (A : Option Addr) : Rd w A [] := fun h => absurd h (by simp)
theorem Rd.keep (h : Rd w A xs) (hk : ∀ p : Addr, p.block < w.heap.size → w'.cell? p = w.cell? p) : Rd w' A xs := fun hn => by
  obtain ⟨b, off, e, hc⟩ := h hn
  exact ⟨b, off, e, fun i hi => (hk ⟨b, off + i, none⟩ (block_lt_of_cell (hc i hi))).trans (hc i hi)⟩
theorem Rd.below {n : Nat} (h : Rd w A xs) (hb : Below n w w') (hn : w.heap.size ≤ n) : Rd w' A xs := h.keep fun p hp => hb.cell (p := p) (by omega)
theorem Rd.kept (h : Rd w A xs) (hb : Below w.heap.size w w') : Rd w' A xs := h.below hb (Nat.le_refl _)
theorem Rd.drew (h : Rd w A xs) : Rd w.drew A xs := h
theorem Rd.drewN (h : Rd w A xs) (n : Nat) : Rd (w.drewN n) A xs := h
theorem Rd.alloc (h : Rd w A xs) (o : Obj) : Rd (w.alloc o) A xs := h.kept ((Below.refl _ w).alloc (Nat.le_refl _) o)
theorem Rd.take (h : Rd w A xs) (n : Nat) : Rd w A (xs.take n) := fun hn => by
  have hl : (xs.take n).length ≤ xs.length := by simp; omega
  obtain ⟨b, off, e, hc⟩ := h (by omega)
  refine ⟨b, off, e, fun i hi => ?_⟩
  rw [hc i (by omega)]
  have : i < n := by simp at hi; omega
  simp [List.getD, this]
theorem Rd.drop (h : Rd w A xs) (k cap : Nat) (hcap : xs.length ≤ cap) : Rd w (if cap = k then A else A.map (·.add k)) (xs.drop k) := fun hn => by
  have hk : k < xs.length := by simp at hn; omega
  obtain ⟨b, off, rfl, hc⟩ := h (by omega)
  rw [if_neg (by omega)]
  refine ⟨b, off + k, by simp only [Option.map_some]; unfold Addr.add; split <;> simp_all, fun i hi => ?_⟩
  have := hc (k + i) (by simp at hi; omega)
  rw [show off + k + i = off + (k + i) by omega, this]
  simp [List.getD, List.getElem?_drop]
theorem Rd.of_own {base : Nat} {e : TypeId} {c n : Nat} (h : w.ownsRow base e 1 (.slice A n c) n (xs.map Y)) : Rd w A xs := fun hn => by
  have hl : xs.length = n := by have := h.1; simpa using this
  obtain ⟨g, cap, hv, _, hlt⟩ := h.form (by omega)
  have hA : A = some ⟨g, 0, none⟩ := by injection hv
  subst hA
  refine ⟨g, 0, rfl, fun i hi => ?_⟩
  have := h.cells (g := g) rfl i (Y (xs.getD i 0)) (by simp [hi])
  have hadd : (⟨g, 0, none⟩ : Addr).add i = ⟨g, 0 + i, none⟩ := by unfold Addr.add; split <;> simp_all
  rw [hadd] at this
  exact this
end
end Go.Proofs.YtbmjjmianhjfiaaDoor
