/- A region that draws its order, whose first n operations read or call quietly and whose others stand in one forced order behind them, is walked in the order of the text; no conditions but the closed check tailB. -/
import Derived.StillTail
import Derived.Deep.QuietTactic
import Derived.BigQuiet
namespace Go.Proofs.YtbmjjmianhjfiaaDoor
open Go

/-- No operation of the head is guarded or waits for one at or behind itself. -/
def headUp (l : List Oper) (n : Nat) : Bool :=
  (List.range n).all fun i => match l[i]? with
    | some o => o.guard.isNone && o.after.all fun e => !Region.binds .any e || decide (e.on < i)
    | none => false

/-- n operations are listed, no other. -/
def doneTo (n m : Nat) : Array Bool := (Array.range m).map fun j => decide (j < n)

/-- Two lists of what has come up, over the whole region and over its head alone, tell the same. -/
structure Alike2 (n m : Nat) (listed listed' : Array Bool) : Prop where
  size : listed.size = m
  size' : listed'.size = n
  head : ∀ j, j < n → ∀ d, listed.getD j d = listed'.getD j d
  tail : ∀ j, n ≤ j → j < m → listed.getD j true = false

section
variable {P : Program} {l : List Oper} {n : Nat} {C : World → Prop} {Q' : Exit → Act → World → Prop} {listed listed' : Array Bool}

theorem wpQuiet_mono {ops : Array Oper} {K K' : Act → Prop} (h : ∀ a, K a → K' a) : ∀ (l : List Oper) (a : Act), wpQuiet P ops C K l a → wpQuiet P ops C K' l a
  | [], a, hh => h a hh
  | o :: rest, a, hh => by
    unfold wpQuiet at hh ⊢
    split
    · rename_i hw; rw [if_pos hw] at hh; exact Oper.quiet_mono (fun a' => wpQuiet_mono h rest a') hh
    · rename_i hw; rw [if_neg hw] at hh; exact wpQuiet_mono h rest _ hh

theorem headUp_spec (h : headUp l n = true) {i : Nat} (hi : i < n) : ∃ o, l[i]? = some o ∧ o.guard = none ∧ ∀ e ∈ o.after, Region.binds .any e = true → e.on < i := by
  have := List.all_eq_true.1 h i (List.mem_range.2 hi)
  split at this
  · rename_i o ho
    simp only [Bool.and_eq_true] at this
    refine ⟨o, ho, by simpa using this.1, fun e he hb => ?_⟩
    have h2 := (Array.all_eq_true_iff_forall_mem.1 this.2) e he
    simpa [hb] using h2
  · cases this

theorem Alike2.getF (s : Alike2 n l.length listed listed') (j : Nat) : listed.getD j false = listed'.getD j false := by
  rcases Nat.lt_or_ge j n with h | h
  · exact s.head j h false
  · rw [show listed'.getD j false = false by simp [Array.getElem?_eq_none (show listed'.size ≤ j by rw [s.size']; exact h)]]
    rcases Nat.lt_or_ge j l.length with h2 | h2
    · exact getD_both (s.tail j h h2)
    · simp [Array.getElem?_eq_none (show listed.size ≤ j by rw [s.size]; exact h2)]

theorem Alike2.ready (s : Alike2 n l.length listed listed') {i : Nat} (hi : i < n) (hr : i ∈ Region.ready .any l.toArray listed) : i ∈ Region.ready .any (l.take n).toArray listed' := by
  rw [mem_ready] at hr ⊢
  obtain ⟨h0, o, ho, hall⟩ := hr
  refine ⟨by rw [← s.head i hi]; exact h0, o, by simpa [List.getElem?_take, hi] using ho, fun e he hb => by rw [← s.getF]; exact hall e he hb⟩

theorem Alike2.set (s : Alike2 n l.length listed listed') {i : Nat} (hi : i < n) : Alike2 n l.length (listed.setIfInBounds i true) (listed'.setIfInBounds i true) := by
  refine ⟨by simp [s.size], by simp [s.size'], fun j hj d => ?_, fun j hj hj' => by rw [getD_set_ne true (by omega)]; exact s.tail j hj hj'⟩
  by_cases h : i = j
  · subst h
    by_cases hl : i < l.length
    · simp [s.size, s.size', hi, hl]
    · have := s.head i hi d
      simp [s.size, hl] at this
      have h2 := s.head i hi true
      have h3 := s.head i hi false
      simp [s.size, hl, s.size', hi] at h2 h3
      rw [h3] at h2; cases h2
  · rw [getD_set_ne d h, getD_set_ne d h]; exact s.head j hj d

theorem qOp_head (hu : headUp l n = true) {i : Nat} (hi : i < n) {K : Act → Prop} {a : Act} (h : qOp P (l.take n).toArray C i K a) : qOp P l.toArray C i K a := by
  obtain ⟨o, ho, hg, _⟩ := headUp_spec hu hi
  have h1 : (l.take n).toArray[i]? = some o := by simp [hi, ho]
  have h2 : l.toArray[i]? = some o := by simp [ho]
  unfold qOp at h ⊢
  simp only [h1, h2, Region.wanted, hg, if_true] at h ⊢
  exact h

theorem some_ready (hu : headUp l n = true) (s : Alike2 n l.length listed listed') : ∀ (d i : Nat), i ≤ d → i < n → listed.getD i true = false → Region.ready .any l.toArray listed ≠ [] := by
  intro d
  induction d with
  | zero =>
    intro i hd hi hun hr
    obtain ⟨o, ho, _, he⟩ := headUp_spec hu hi
    have : i ∈ Region.ready .any l.toArray listed := mem_ready.2 ⟨hun, o, by simpa using ho, fun e hm hb => by have := he e hm hb; omega⟩
    rw [hr] at this; cases this
  | succ d ih =>
    intro i hd hi hun hr
    obtain ⟨o, ho, _, he⟩ := headUp_spec hu hi
    by_cases hall : ∀ e ∈ o.after, Region.binds .any e = true → listed.getD e.on false = true
    · have : i ∈ Region.ready .any l.toArray listed := mem_ready.2 ⟨hun, o, by simpa using ho, hall⟩
      rw [hr] at this; cases this
    · simp only [Classical.not_forall] at hall
      obtain ⟨e, hm, hb, hne⟩ := hall
      have hlt := he e hm hb
      have h0 : listed.getD e.on false = false := by simpa using hne
      have hlen : e.on < listed.size := by
        have : i < l.length := (List.getElem?_eq_some_iff.1 ho).1
        rw [s.size]; omega
      exact ih e.on (by omega) (by omega) (getD_in hlen h0) hr

/-- Every operation behind n waits for one from n on. -/
def tailUp (l : List Oper) (n : Nat) : Bool :=
  (List.range l.length).all fun t => decide (t ≤ n) || (match l[t]? with
    | some o => o.after.any fun e => Region.binds .any e && decide (n ≤ e.on)
    | none => false)

theorem n_waits (hs : Region.sinkB .any l.toArray n = true) (inv : HeadInv .any l.toArray n listed) :
    ∀ (d i : Nat), n - i = d → i < n → listed.getD i true = false → n ∉ Region.ready .any l.toArray listed := by
  intro d
  induction d using Nat.strongRecOn with
  | _ d ih =>
    intro i hd hi hun hr
    obtain ⟨j, hj, hj2⟩ := List.any_eq_true.1 (List.all_eq_true.1 hs i (List.mem_range.2 hi))
    simp only [Bool.and_eq_true, decide_eq_true_eq] at hj2
    obtain ⟨oj, hoj, e, he, hb, hon⟩ := Region.waitsFor_spec hj2.2
    have hjn : j ≤ n := by have := List.mem_range.1 hj; omega
    obtain ⟨_, on, hon', hall⟩ := mem_ready.1 hr
    by_cases hjt : j = n
    · subst hjt
      obtain rfl : oj = on := Option.some.inj (hoj.symm.trans hon')
      have h2 := hall e he hb
      rw [hon, getD_both hun] at h2; cases h2
    · have hjs : j < listed.size := by rw [inv.size]; exact (Array.getElem?_eq_some_iff.1 hoj).1
      cases hl : listed.getD j false with
      | true =>
        have h2 := inv.closed j oj hoj hl e he hb
        rw [hon, getD_both hun] at h2; cases h2
      | false => exact ih (n - j) (by omega) j rfl (by omega) (getD_in hjs hl) hr

theorem t_waits (ht : tailUp l n = true) (inv : HeadInv .any l.toArray n listed) (t : Nat) (hnt : n < t) : t ∉ Region.ready .any l.toArray listed := by
  intro hr
  obtain ⟨_, o, ho, hall⟩ := mem_ready.1 hr
  have htl : t < l.length := by have := (Array.getElem?_eq_some_iff.1 ho).1; simpa using this
  have h := List.all_eq_true.1 ht t (List.mem_range.2 htl)
  have ho' : l[t]? = some o := by simpa using ho
  simp only [ho', Bool.or_eq_true, decide_eq_true_eq] at h
  rcases h with h | h
  · omega
  · obtain ⟨e, he, hb⟩ := Array.any_eq_true'.1 h
    simp only [Bool.and_eq_true, decide_eq_true_eq] at hb
    have h2 := hall e he hb.1
    rcases Nat.lt_or_ge e.on l.length with h3 | h3
    · rw [getD_both (inv.tail e.on hb.2 (by simpa using h3))] at h2; cases h2
    · rw [show listed.getD e.on false = false by simp [Array.getElem?_eq_none (show listed.size ≤ e.on by rw [inv.size]; simpa using h3)]] at h2; cases h2

theorem wpAny_of_head_quiet (hu : headUp l n = true) (hs : Region.sinkB .any l.toArray n = true) (ht : tailUp l n = true) :
    ∀ (f : Nat) (listed listed' : Array Bool) (a : Act) (w : World), Alike2 n l.length listed listed' → HeadInv .any l.toArray n listed → listed'.toList.count false = f → C w →
      wpAnyQ P .any (l.take n).toArray C (fun a' => ∀ w', C w' → wpAny P .any l.toArray Q' (l.length - n) (doneTo n l.length) a' w') f listed' a →
      wpAny P .any l.toArray Q' (f + (l.length - n)) listed a w := by
  intro f
  induction f with
  | zero =>
    intro listed listed' a w s inv hcount hC h
    have hnone : ∀ j, j < n → listed'.getD j false = true := by
      intro j hj
      have hj' : j < listed'.size := by rw [s.size']; exact hj
      cases hv : listed'[j] with
      | true => simp [hj', hv]
      | false =>
        have hm : false ∈ listed'.toList := by rw [← hv]; simp
        have := List.count_pos_iff.2 hm
        omega
    have hfin : listed = doneTo n l.length := by
      apply Array.ext
      · rw [s.size]; simp [doneTo]
      · intro j h1 h2
        have h1' : j < l.length := by rw [← s.size]; exact h1
        by_cases hj : j < n
        · have := (s.head j hj false).trans (hnone j hj)
          simp [h1] at this
          simp [doneTo, hj, this]
        · have := s.tail j (by omega) h1'
          simp [h1] at this
          simp [doneTo, hj, this]
    rw [hfin, Nat.zero_add]
    exact h.2 w hC
  | succ f ih =>
    intro listed listed' a w s inv hcount hC h
    obtain ⟨j, hj, hun⟩ : ∃ j, j < n ∧ listed.getD j true = false := by
      have hm : false ∈ listed'.toList := List.count_pos_iff.1 (by omega)
      obtain ⟨j, hj, hv⟩ := List.mem_iff_getElem.1 hm
      have hj' : j < listed'.size := by simpa using hj
      refine ⟨j, by rw [← s.size']; exact hj', ?_⟩
      rw [s.head j (by rw [← s.size']; exact hj')]
      simp only [Array.getElem_toList] at hv
      simp [hj', hv]
    rw [show f + 1 + (l.length - n) = (f + (l.length - n)) + 1 by omega]
    refine ⟨fun h0 => absurd h0 (some_ready hu s j j (Nat.le_refl _) hj hun), fun i hi => ?_⟩
    have hin : i < n := by
      rcases Nat.lt_trichotomy i n with h2 | h2 | h2
      · exact h2
      · subst h2; exact absurd hi (n_waits hs inv _ j rfl hj hun)
      · exact absurd hi (t_waits ht inv i h2)
    have hr' := s.ready hin hi
    have hcount' : (listed'.setIfInBounds i true).toList.count false = f := by
      have h0 := (mem_ready.1 hr').1
      have hlt : i < listed'.size := by rw [s.size']; exact hin
      have hv : listed'[i] = false := by simpa [hlt] using h0
      have hl : i < listed'.toList.length := by simpa using hlt
      have hv' : listed'.toList[i] = false := by simpa using hv
      rw [Array.toList_setIfInBounds, List.count_set hl, hv', hcount]
      rfl
    exact wpOp_of_qOp hC (fun a' w' hw' hK => ih _ _ a' w' (s.set hin) (inv.set hi hin) hcount' hw' hK) (qOp_head hu hin (h.2 i hr'))

def headB (l : List Oper) (n : Nat) : Bool :=
  headUp l n && decide (n < l.length) && Region.sinkB .any l.toArray n && tailUp l n && Region.lexB .any (l.take n).toArray

theorem wp_region_head {id : Nat} {Q : Exit → Act → World → Prop} {a : Act} {w : World} (n : Nat) (hm : P.follows .mixedOrders = true) (hB : headB l n = true) (hC : C { w with drawn := w.drawn + 1 })
    (h : wpQuiet P (l.take n).toArray C (fun a' => ∀ w', C w' → wpAny P .any l.toArray Q (l.length - n) (doneTo n l.length) a' w') (l.take n) a) : (Code.region id l.toArray true).wp P Q a w := by
  simp only [headB, Bool.and_eq_true, decide_eq_true_eq] at hB
  obtain ⟨⟨⟨⟨hu, hn⟩, hs⟩, ht⟩, hl⟩ := hB
  simp only [Region.lexB, Bool.and_eq_true] at hl
  have htl : (l.take n).length = n := by simp; omega
  refine wp_region_any hm ?_
  have hQ := wpAnyQ_lex (P := P) (C := C) (md := .any) (ops := (l.take n).toArray) hl.1 (l.take n) 0 (Array.replicate (l.take n).toArray.size false) a (by simp) (by simpa using hl.2) h
  have s0 : Alike2 n l.length (Array.replicate l.toArray.size false) (Array.replicate (l.take n).toArray.size false) := by
    refine ⟨by simp, by simp; omega, fun j hj d => ?_, fun j _ hj => ?_⟩
    · have h1 : j < l.length := by omega
      have h2 : j < min n l.length := by omega
      simp [h1, h2]
    · simp [hj]
  have inv0 : HeadInv .any l.toArray n (Array.replicate l.toArray.size false) :=
    ⟨by simp, fun j oj _ h1 => (by rw [getD_replicate_false] at h1; cases h1), fun t _ ht => getD_in (by simpa using ht) (getD_replicate_false _ _)⟩
  have := wpAny_of_head_quiet (P := P) (Q' := Q) (C := C) hu hs ht (l.take n).length _ _ a _ s0 inv0 (by simp) hC hQ
  rw [htl, show n + (l.length - n) = l.toArray.size by simp; omega] at this
  exact this

def tailB (l : List Oper) (n : Nat) : Bool := headB l n && Region.seqB .any l.toArray (l.length - n) n (doneTo n l.length)

/-- A quiet head, then operations in one forced order. AT THE CLASS 'w after some draws'. -/
theorem wp_region_quiet_tail {id : Nat} {Q : Exit → Act → World → Prop} {a : Act} {w : World} (n : Nat) (hm : P.follows .mixedOrders = true) (hB : tailB l n = true)
    (h : wpQuiet P (l.take n).toArray (fun w' => ∃ k, w' = w.drewN k) (fun a' => ∀ w', (∃ k, w' = w.drewN k) → wpList P l.toArray Q (l.drop n) a' w') (l.take n) a) : (Code.region id l.toArray true).wp P Q a w := by
  simp only [tailB, Bool.and_eq_true] at hB
  refine wp_region_head n hm hB.1 ⟨1, rfl⟩ (wpQuiet_mono (fun a' hT w' hw' => ?_) _ _ h)
  have := wpAny_of_seq (md := .any) (Q' := Q) (P := P) (ops := l.toArray) (l.drop n) n (doneTo n l.length) a' w' (fun j => by simp [List.getElem?_drop]) (by simpa using hB.2) (hT w' hw')
  simpa using this

def callB (l : List Oper) (n : Nat) : Bool :=
  headB l n && decide (Region.ready .any l.toArray (doneTo n l.length) = [n]) && Region.noSelect l.toArray && Region.lexFrom .any l.toArray (l.drop (n + 1)).length (n + 1) ((doneTo n l.length).setIfInBounds n true)

/-- A quiet head, ONE operation (a call that makes memory, say), and operations behind it that only read again. -/
theorem wp_region_quiet_call {id : Nat} {Q : Exit → Act → World → Prop} {a : Act} {w : World} (n : Nat) (hm : P.follows .mixedOrders = true) (hB : callB l n = true)
    (h : wpQuiet P (l.take n).toArray (fun w' => ∃ k, w' = w.drewN k) (fun a' => ∀ w', (∃ k, w' = w.drewN k) →
      wpOp P l.toArray Q n (fun a2 w2 => wpQuiet P l.toArray (fun w' => ∃ k, w' = w2.drewN k) (fun a3 => ∀ w3, (∃ k, w3 = w2.drewN k) → Q .normal a3 w3) (l.drop (n + 1)) a2) a' w') (l.take n) a) :
    (Code.region id l.toArray true).wp P Q a w := by
  simp only [callB, Bool.and_eq_true, decide_eq_true_eq] at hB
  obtain ⟨⟨⟨hH, hr⟩, hsel⟩, hlex⟩ := hB
  have hn : n < l.length := by simp only [headB, Bool.and_eq_true, decide_eq_true_eq] at hH; exact hH.1.1.1.2
  refine wp_region_head n hm hH ⟨1, rfl⟩ (wpQuiet_mono (fun a' hT w' hw' => ?_) _ _ h)
  rw [show l.length - n = (l.drop (n + 1)).length + 1 by simp; omega]
  refine ⟨fun h0 => (by rw [hr] at h0; cases h0), fun i hi => ?_⟩
  rw [hr] at hi
  obtain rfl : i = n := by simpa using hi
  refine wpOp_mono (fun a2 w2 h2 => ?_) (hT w' hw')
  refine wpAny_of_quiet (C := fun w' => ∃ k, w' = w2.drewN k) (Q := fun a3 => ∀ w3, (∃ k, w3 = w2.drewN k) → Q .normal a3 w3) (fun _ w3 hw3 h3 => h3 w3 hw3) _ _ _ _ ⟨0, rfl⟩ ?_
  exact wpAnyQ_lex hsel (l.drop (i + 1)) (i + 1) _ _ (fun j => by simp [List.getElem?_drop]) hlex h2
end

/-! Guards for the walk's arms: the goal's next operation is a store, a load, .. of this type (to be offered under with_reducible). -/
section
variable {P : Program} {ops : Array Oper} {Q : Exit → Act → World → Prop} {dst : Option Tmp} {x y : Operand} {t : TypeId} {pos : String} {aft : Array Edge} {rest : List Oper} {a : Act} {w : World}
theorem at_store (ty : TypeId) (h : wpList P ops Q ({ dst := dst, op := .store ty x y, type := t, pos := pos, after := aft, guard := none } :: rest) a w) :
    wpList P ops Q ({ dst := dst, op := .store ty x y, type := t, pos := pos, after := aft, guard := none } :: rest) a w := h
theorem at_load (ty : TypeId) (h : wpList P ops Q ({ dst := dst, op := .load ty x, type := t, pos := pos, after := aft, guard := none } :: rest) a w) :
    wpList P ops Q ({ dst := dst, op := .load ty x, type := t, pos := pos, after := aft, guard := none } :: rest) a w := h
theorem at_append (u v : TypeId) (h : wpList P ops Q ({ dst := dst, op := .call { callee := .builtin .append, args := #[x, y], argTypes := #[u, v] }, type := t, pos := pos, after := aft, guard := none } :: rest) a w) :
    wpList P ops Q ({ dst := dst, op := .call { callee := .builtin .append, args := #[x, y], argTypes := #[u, v] }, type := t, pos := pos, after := aft, guard := none } :: rest) a w := h
theorem at_copy (u v : TypeId) (h : wpList P ops Q ({ dst := dst, op := .call { callee := .builtin .copy, args := #[x, y], argTypes := #[u, v] }, type := t, pos := pos, after := aft, guard := none } :: rest) a w) :
    wpList P ops Q ({ dst := dst, op := .call { callee := .builtin .copy, args := #[x, y], argTypes := #[u, v] }, type := t, pos := pos, after := aft, guard := none } :: rest) a w := h
end
end Go.Proofs.YtbmjjmianhjfiaaDoor
