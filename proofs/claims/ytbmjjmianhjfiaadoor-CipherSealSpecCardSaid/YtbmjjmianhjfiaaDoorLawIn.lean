/- What the laws share: a key and a nonce boxed, the three tables, what calls keep; slices and strings of bytes; no program but its tables. -/
import Derived.Test.YtbmjjmianhjfiaaDoorSane
import Derived.Deep.RegionHeld3
namespace Go.Proofs.YtbmjjmianhjfiaaDoor
open Go.RowKit
attribute [local irreducible] sumS tagged

/-- The three tables of the program. -/
structure Tabs (w : World) : Prop where
  t0 : Lay w 0 startS
  t1 : Lay w 1 numbersS
  t2 : Tab w 2 constsS
theorem Tabs.below {w w' : World} {n : Nat} (h : Tabs w) (hb : Below n w w') (hn : w.heap.size ≤ n) : Tabs w' := ⟨h.t0.below hb hn, h.t1.below hb hn, h.t2.below hb hn⟩
/-- Memory in a law: its boxes, and the tables below. -/
structure LIn (w0 : World) (K N : List (BitVec 8)) (w : World) : Prop where
  key : Blk w w0.heap.size 23 (K.map Y)
  non : Blk w (w0.heap.size + 1) 25 (N.map Y)
  old : Below w0.heap.size w0 w
  tab : Tabs w0
section
variable {w0 w w' : World} {K N : List (BitVec 8)}
theorem LIn.tabs (h : LIn w0 K N w) : Tabs w := h.tab.below h.old (Nat.le_refl _)
theorem LIn.kept (h : LIn w0 K N w) (hb : Below w.heap.size w w') : LIn w0 K N w' := ⟨h.key.kept hb, h.non.kept hb, h.old.trans (hb.mono h.old.size), h.tab⟩
theorem LIn.start (w : World) (K N : List (BitVec 8)) (ht : Tabs w) : LIn w K N ((w.alloc (.cells (K.map Y).toArray 23)).alloc (.cells (N.map Y).toArray 25)) := ⟨boxK w K N, boxN w K N, boxB w K N, ht⟩
theorem LIn.rk (h : LIn w0 K N w) : w.rangeAt w0.heap.size 0 (K.map Y) := fun j v hj => by rw [Nat.zero_add, h.key.at]; exact hj
theorem LIn.rn (h : LIn w0 K N w) : w.rangeAt (w0.heap.size + 1) 0 (N.map Y) := fun j v hj => by rw [Nat.zero_add, h.non.at]; exact hj
theorem LIn.rr (h : LIn w0 K N w) : w.rangeAt w0.heap.size 0 (K.map Y) ∧ w.rangeAt (w0.heap.size + 1) 0 (N.map Y) := ⟨h.rk, h.rn⟩
theorem LIn.sz (h : LIn w0 K N w) : w0.heap.size + 2 ≤ w.heap.size := by have := h.non.lt; omega
theorem LIn.drewN (h : LIn w0 K N w) (n : Nat) : LIn w0 K N (w.drewN n) := h.kept (below_drewN (Below.refl _ w) n)
theorem LIn.drew (h : LIn w0 K N w) : LIn w0 K N w.drew := h.kept (Below.refl _ w).drew
theorem LIn.alloc (h : LIn w0 K N w) (o : Obj) : LIn w0 K N (w.alloc o) := h.kept ((Below.refl _ w).alloc (Nat.le_refl _) o)
/-- Behind an append onto a slice of the call's own. -/
theorem LIn.app {v : Value} {base : Nat} {xs : List (BitVec 8)} (h : LIn w0 K N w) (hown : Own w base v xs) (hbase : w0.heap.size + 2 ≤ base) (hg : w.grownBy w' v.ownBlock) : LIn w0 K N w' := by
  have hsz := h.sz
  have hb : Below (w0.heap.size + 2) w w' := (Below.refl _ w).grown hg hsz fun k hk => by have := (World.ownsRow.lt hown k hk).1; omega
  exact ⟨h.key.below hb (by omega), h.non.below hb (by omega), h.old.trans (hb.mono (by omega)), h.tab⟩
end
/-- A slice that was there, behind an append onto another slice of the call's own. -/
theorem Rd.app {w w' : World} {A : Option Addr} {ys : List (BitVec 8)} {v : Value} {n : Nat} (h : Rd w A ys) (hA : ∀ ad, A = some ad → ad.block < n) (hn : n ≤ w.heap.size) (hg : w.grownBy w' v.ownBlock) (hv : ∀ k, v.ownBlock = some k → n ≤ k) : Rd w' A ys := fun h0 => by
  have hb : Below n w w' := (Below.refl _ w).grown hg hn fun k hk => hv k hk
  obtain ⟨b, off, e, hc⟩ := h h0
  have hlt := hA _ e
  exact ⟨b, off, e, fun i hi => (hb.cell (p := ⟨b, off + i, none⟩) hlt).trans (hc i hi)⟩
theorem Own.drew {w : World} {base : Nat} {v : Value} {xs : List (BitVec 8)} (h : Own w base v xs) : Own w.drew base v xs := h

/-! ### A region that draws its order, by hand: what S gives is taken first, what makes memory comes up alone. -/
section
variable {P : Program} {ops : Array Oper} {Q : Exit → Act → World → Prop} {S : World → Prop} {fuel : Nat} {listed : Array Bool} {a : Act} {w : World} {i : Nat} {dst : Option Tmp} {op : Op} {t : TypeId} {pos : String} {aft : Array Edge}
theorem held_row (b : Nat) (cs : List Value) (ty : TypeId) (x : Operand) (d : TypeDesc) (hi : ops[i]? = some { dst := dst, op := .load ty x, type := t, pos := pos, after := aft, guard := none })
    (hs : Region.noSelect ops = true) (hf : Region.free .any ops listed i = true) (hr : (Region.ready .any ops listed).contains i = true) (hQ : ∀ c a w, Q (.panic c) (a.put dst (.agg cs.toArray)) w → Q (.panic c) a w)
    (hx : a.eval x = .pointer (some ⟨b, 0, none⟩)) (hc : ∀ w, S w → w.rangeAt b 0 cs) (hu : P.underlying ty = some d) (hd : d.isRow = true) (hz : (P.info? ty).map (·.size) = some cs.length) (hS : S w)
    (h : wpAnyH P .any ops Q S fuel (listed.setIfInBounds i true) (a.put dst (.agg cs.toArray)) w) : wpAnyH P .any ops Q S (fuel + 1) listed a w :=
  wpAnyH_take hi hs hf hr hQ (yieldsIf_load_mid rfl ty x rfl b 0 hx cs d hc hu hd hz) hS h
theorem held_pure (v : Value) (hi : ops[i]? = some { dst := dst, op := op, type := t, pos := pos, after := aft, guard := none })
    (hs : Region.noSelect ops = true) (hf : Region.free .any ops listed i = true) (hr : (Region.ready .any ops listed).contains i = true) (hQ : ∀ c a w, Q (.panic c) (a.put dst v) w → Q (.panic c) a w)
    (hx : ∀ w, S w → (execOp a.eval { dst := dst, op := op, type := t, pos := pos, after := aft, guard := none }).run P w = .ok (.value v) w) (hS : S w)
    (h : wpAnyH P .any ops Q S fuel (listed.setIfInBounds i true) (a.put dst v) w) : wpAnyH P .any ops Q S (fuel + 1) listed a w :=
  wpAnyH_take hi hs hf hr hQ (.inl ⟨rfl, hx⟩) hS h
theorem held_step (hi : ops[i]? = some { dst := dst, op := op, type := t, pos := pos, after := aft, guard := none }) (hr : Region.ready .any ops listed = [i])
    (h : ∀ K' : Act → World → Prop, Shut (∀ a w, S w → wpAnyH P .any ops Q S fuel (listed.setIfInBounds i true) a w → K' a w) → Oper.wp P { dst := dst, op := op, type := t, pos := pos, after := aft, guard := none } a w K' Q) : wpAnyH P .any ops Q S (fuel + 1) listed a w := by
  refine wpAnyH_ready hr (by simp) (AllReadyH.cons hi (fun K' hK => ?_) AllReadyH.nil)
  rw [if_pos (by rfl)]
  exact h K' fun a w hS hW => hK.out a w hS fun _ => hW
end
end Go.Proofs.YtbmjjmianhjfiaaDoor
