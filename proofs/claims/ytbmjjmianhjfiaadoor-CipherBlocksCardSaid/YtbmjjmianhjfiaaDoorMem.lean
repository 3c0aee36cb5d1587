/- Slices of bytes that a call makes: make, append, conversion to strings, as laws over the program; lengths below 2^46. -/
import Derived.Test.YtbmjjmianhjfiaaDoorSmall
import Derived.Deep.WholeRow
import Derived.Laws.BytesArg
import Derived.Deep.RegionLaw
namespace Go.Proofs.YtbmjjmianhjfiaaDoor
open Go.RowKit

/-- c bytes 0. -/
def zeroB (c : Nat) : List (BitVec 8) := List.replicate c 0#8
theorem length_zeroB (c : Nat) : (zeroB c).length = c := by simp [zeroB]

/-- The slice v, made by the call itself in blocks from base on, holds these bytes. -/
def Own (w : World) (base : Nat) (v : Value) (xs : List (BitVec 8)) : Prop := w.ownsRow base 5 1 v xs.length (xs.map Y)

section
variable {w w' : World} {base : Nat} {v : Value} {xs : List (BitVec 8)}
theorem Own.nil (w : World) (base : Nat) : Own w base (.slice none 0 0) [] := World.ownsRow_nil w base 5 1
theorem Own.kept {row : Option Nat} (h : Own w base v xs) (hg : w.grownBy w' row) (hne : v.ownBlock = none ∨ v.ownBlock ≠ row) : Own w' base v xs := World.ownsRow.kept h hg hne
theorem Own.below (h : Own w base v xs) (hb : Below w.heap.size w w') : Own w' base v xs :=
  h.kept (only_of_below hb none) (by cases hv : v.ownBlock <;> simp)
theorem Own.alloc (h : Own w base v xs) (o : Obj) : Own (w.alloc o) base v xs := World.ownsRow.alloc h o
theorem Own.drewN (h : Own w base v xs) (n : Nat) : Own (w.drewN n) base v xs := h
theorem Own.mono {base' : Nat} (h : Own w base v xs) (hb : base' ≤ base) : Own w base' v xs := by
  refine ⟨h.1, ?_⟩
  rcases h.2 with h2 | ⟨g, cap, cur, e, hg, r⟩
  · exact .inl h2
  · exact .inr ⟨g, cap, cur, e, by omega, r⟩
/-- Its shape. -/
theorem Own.form (h : Own w base v xs) : ∃ A c, v = .slice A xs.length c ∧ xs.length ≤ c ∧ c ≤ maxLen ∧ Rd w A xs ∧ (∀ b, v.ownBlock = some b → A = some ⟨b, 0, none⟩ ∧ base ≤ b ∧ b < w.heap.size) := by
  have hlt := World.ownsRow.lt h
  rcases h.2 with ⟨rfl, hn⟩ | ⟨g, cap, cur, rfl, hg, hh, hnc, hcm, hcs, htake⟩
  · have hx : xs = [] := List.eq_nil_of_length_eq_zero hn
    subst hx
    exact ⟨none, 0, rfl, by simp, by simp [maxLen], Rd.nil _ _, fun b hb => by simp [Value.ownBlock] at hb⟩
  · refine ⟨_, cap, rfl, hnc, hcm, Rd.of_own h, fun b hb => ?_⟩
    have := hlt b hb
    simp [Value.ownBlock] at hb
    subst hb
    exact ⟨rfl, this⟩
theorem Own.eq_of (h : Own w base v xs) {ys : List (BitVec 8)} (e : xs = ys) : Own w base v ys := e ▸ h
end

theorem run_nil26 (w : World) (base : Nat) (ty : TypeId) (v : Value) (xs : List (BitVec 8)) (c : Nat) (hown : Own w base v xs) :
    (Builtin.append_ #[26, 26] ty #[v, .slice none 0 c]).run Tryd.prog w = .ok v w := by
  obtain ⟨i, hi, -, -, -⟩ := info_parts info5
  rcases hown.2 with ⟨rfl, _⟩ | ⟨g, cap, cur, rfl, _, _, hnc, _⟩
  · simp [Builtin.append_, run_underlying Tryd.underlying26, sizeOf, typeInfo, hi, Builtin.lenOf, Builtin.firstCells]
  · have hnc' : xs.length ≤ cap := hnc
    simp [Builtin.append_, run_underlying Tryd.underlying26, sizeOf, typeInfo, hi, Builtin.lenOf, Builtin.firstCells, hnc', storeCells]

/-- append onto a slice of the call's own, from whatever slice. -/
theorem run_app26 (w : World) (base : Nat) (ty : TypeId) (v : Value) (xs : List (BitVec 8)) (A : Option Addr) (m c : Nat) (ys : List (BitVec 8))
    (hown : Own w base v xs) (hr : Rd w A ys) (hm : ys.length = m) (hsz : xs.length + m ≤ 70368744177664) (hbase : base ≤ w.heap.size) :
    ∃ v' w', (Builtin.append_ #[26, 26] ty #[v, .slice A m c]).run Tryd.prog w = .ok v' w' ∧ Own w' base v' (xs ++ ys) ∧ w.grownBy w' v.ownBlock ∧ (v'.ownBlock = v.ownBlock ∨ v'.ownBlock = some w.heap.size) := by
  subst hm
  rcases A with _ | ad
  · have h0 : ys = [] := by
      rcases ys with _ | ⟨y, ys⟩
      · rfl
      · obtain ⟨b, off, h, _⟩ := hr (by simp)
        cases h
    subst h0
    exact ⟨v, w, run_nil26 w base ty v xs c hown, hown.eq_of (by simp), World.grownBy.refl w _, .inl rfl⟩
  · obtain ⟨i, hi, hz, hs, hb⟩ := info_parts info5
    have hcells : ∀ j u, (ys.map Y)[j]? = some u → w.cell? (ad.add j) = some u := by
      intro j u hu
      have hj : j < ys.length := by
        rcases Nat.lt_or_ge j ys.length with h | h
        · exact h
        · simp [h] at hu
      obtain ⟨b, off, h, hc⟩ := hr (by omega)
      injection h with h
      subst h
      have hadd : (⟨b, off, none⟩ : Addr).add j = ⟨b, off + j, none⟩ := by unfold Addr.add; split <;> simp_all
      rw [hadd, hc j hj, ← hu]
      simp [hj, Y]
    obtain ⟨v', w', hrun, h2, h3, _, h5⟩ := run_append_own_at (P := Tryd.prog) w base 26 ty 5 i _ 1 1 Tryd.underlying26 hi hz hs hb rfl (by decide) v xs.length (xs.map Y) hown ad ys.length c (ys.map Y) (by simp) hcells (Y_one ys)
      (by simp only [maxLen]; omega) (by omega) hbase
    refine ⟨v', w', hrun, ?_, h3, h5⟩
    unfold Own
    simpa using h2

theorem wp_app26 {o : Oper} {a : Act} {K : Act → World → Prop} {Q : Exit → Act → World → Prop} {w : World} (s x : Operand)
    (ho : o.op = .call { callee := .builtin .append, args := #[s, x], argTypes := #[26, 26] })
    (base : Nat) (v : Value) (xs : List (BitVec 8)) (A : Option Addr) (m c : Nat) (ys : List (BitVec 8)) (hs : a.eval s = v) (hx : a.eval x = .slice A m c)
    (hown : Own w base v xs) (hr : Rd w A ys) (hm : ys.length = m) (hsz : xs.length + m ≤ 70368744177664) (hbase : base ≤ w.heap.size)
    (h : ∀ v' w', Own w' base v' (xs ++ ys) → w.grownBy w' v.ownBlock → (v'.ownBlock = v.ownBlock ∨ v'.ownBlock = some w.heap.size) → K (a.put o.dst v') w') : o.wp Tryd.prog a w K Q := by
  obtain ⟨v', w', hrun, h2, h3, h4⟩ := run_app26 w base o.type v xs A m c ys hown hr hm hsz hbase
  unfold Oper.wp execOp
  simp only [ho, resolve, invoke, builtin, Sem.run_bind, Sem.run_pure, Result.andThen_ok, List.map_toArray, List.map_cons, List.map_nil, hs, hx, hrun]
  exact h v' w' h2 h3 h4
theorem wpList_app26 {ops : Array Oper} {rest : List Oper} {o : Oper} {a : Act} {Q : Exit → Act → World → Prop} {w : World} (hgd : o.guard = none) (s x : Operand)
    (ho : o.op = .call { callee := .builtin .append, args := #[s, x], argTypes := #[26, 26] })
    (base : Nat) (v : Value) (xs : List (BitVec 8)) (A : Option Addr) (m c : Nat) (ys : List (BitVec 8)) (hs : a.eval s = v) (hx : a.eval x = .slice A m c)
    (hown : Own w base v xs) (hr : Rd w A ys) (hm : ys.length = m) (hsz : xs.length + m ≤ 70368744177664) (hbase : base ≤ w.heap.size)
    (h : ∀ v' w', Own w' base v' (xs ++ ys) → w.grownBy w' v.ownBlock → (v'.ownBlock = v.ownBlock ∨ v'.ownBlock = some w.heap.size) → wpList Tryd.prog ops Q rest (a.put o.dst v') w') : wpList Tryd.prog ops Q (o :: rest) a w :=
  wpList_plain hgd fun _ hK => wp_app26 s x ho base v xs A m c ys hs hx hown hr hm hsz hbase fun v' w' h2 h3 h4 => hK _ _ (h v' w' h2 h3 h4)

/-- Behind an append: what the call began with is kept. -/
theorem below_app {B base : Nat} {w0 w w' : World} {v : Value} {xs : List (BitVec 8)} (hb : Below B w0 w) (hB : B ≤ w.heap.size) (hown : Own w base v xs) (hbase : B ≤ base) (hg : w.grownBy w' v.ownBlock) : Below B w0 w' :=
  hb.grown hg hB fun k hk => by have := (World.ownsRow.lt hown k hk).1; omega

/-- make([]byte, n, c). -/
theorem make26 (n c : Nat) (hn : n ≤ c) (hc : c ≤ 70368744177664) (k1 k2 : IntKind) (w : World) :
    (Instr.makeSlice 26 (.int k1 (n : Int)) (.int k2 (c : Int))).run Tryd.prog w = .ok (.slice (some ⟨w.heap.size, 0, none⟩) n c) (w.alloc (.cells ((zeroB c).map Y).toArray 5)) := by
  obtain ⟨i, hi, hz, hs, hb⟩ := info_parts info5
  have h := run_make (P := Tryd.prog) w 26 5 i _ Tryd.underlying26 hi hz k1 k2 n c (by omega) (by omega) (by rw [hb]; omega) (by omega)
  rw [h]
  have e : madeCells (Value.cells (.int .u8 0)) ((c : Int).toNat * i.size) = ((zeroB c).map Y).toArray := by
    rw [hs]
    apply Array.ext
    · simp [madeCells, zeroB]
    · intro j h1 h2
      simp [madeCells, zeroB, Value.cells, Y, B]
      rw [Nat.mod_one]; rfl
  rw [e]
  simp

/-- []byte{b0, b1, ..}: a new block that is just these bytes. -/
theorem Rd.block {w : World} {g : Nat} {t : TypeId} {xs : List (BitVec 8)} (h : Blk w g t (xs.map Y)) : Rd w (some ⟨g, 0, none⟩) xs := fun _ =>
  ⟨g, 0, rfl, fun i hi => by rw [Nat.zero_add, h.at]; simp [Y, hi]⟩

theorem Own.make (w : World) (base c : Nat) (hb : base ≤ w.heap.size) (hc : c ≤ maxLen) : Own (w.alloc (.cells ((zeroB c).map Y).toArray 5)) base (.slice (some ⟨w.heap.size, 0, none⟩) 0 c) [] := by
  have := World.ownsRow_made (base := base) (e := 5) (size := 1) w ((zeroB c).map Y).toArray c hb hc (by simp [length_zeroB])
  exact this
theorem Own.makeAll (w : World) (base c : Nat) (hb : base ≤ w.heap.size) (hc : c ≤ maxLen) : Own (w.alloc (.cells ((zeroB c).map Y).toArray 5)) base (.slice (some ⟨w.heap.size, 0, none⟩) c c) (zeroB c) := by
  have := World.ownsRow_lit (base := base) (e := 5) (size := 1) w ((zeroB c).map Y).toArray c hb hc (by simp [length_zeroB])
  unfold Own
  rw [length_zeroB]
  exact this

/-! ### Bytes as a string -/
def strOf (xs : List (BitVec 8)) : ByteArray := strOfNums (xs.map B)
theorem strOf_inj {xs ys : List (BitVec 8)} (h : strOf xs = strOf ys) : xs = ys := by
  unfold strOf strOfNums at h
  have h2 := congrArg (fun b : ByteArray => b.data.toList) h
  simp only [List.map_map] at h2
  have : ∀ b : BitVec 8, UInt8.ofNat (B b).toNat = ⟨b⟩ := by
    intro b; apply UInt8.toNat_inj.1; simp [B, UInt8.toNat]
  have h3 : xs.map (fun b => (⟨b⟩ : UInt8)) = ys.map (fun b => (⟨b⟩ : UInt8)) := by
    simpa [Function.comp_def, this] using h2
  exact (List.map_inj_right (fun a b hab => by injection hab)).1 h3
theorem run_str26 (w : World) (A : Option Addr) (n c : Nat) (xs : List (BitVec 8)) (hr : Rd w A xs) (hn : xs.length = n) :
    (convert 26 9 (.slice A n c)).run Tryd.prog w = .ok (.string (strOf xs)) w := by
  subst hn
  by_cases h0 : 0 < xs.length
  · obtain ⟨b, off, rfl, hc⟩ := hr h0
    exact run_convert_bytes_arg (P := Tryd.prog) w 26 5 Tryd.underlying26 Tryd.underlying5 b off xs.length c (xs.map B) (by simp) (fun i hi => by rw [hc i hi]; simp [hi]) 9 Tryd.underlying9
  · have : xs = [] := List.eq_nil_of_length_eq_zero (by omega)
    subst this
    rcases A with _ | a
    · exact run_convert_bytes_nil (P := Tryd.prog) w 26 5 Tryd.underlying26 Tryd.underlying5 _ _ 9 Tryd.underlying9
    · rw [run_convert_bytes_string w 26 9 5 _ _ c Tryd.underlying26 Tryd.underlying5 Tryd.underlying9]
      simp [Conv.bytesToString]
      rfl
end Go.Proofs.YtbmjjmianhjfiaaDoor
