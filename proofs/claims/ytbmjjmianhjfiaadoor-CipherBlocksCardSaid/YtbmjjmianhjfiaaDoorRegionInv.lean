/- A region that draws its order, by an invariant over what is done: for regions whose parts need not come in the text's order. -/
import Derived.Test.YtbmjjmianhjfiaaDoorTail
namespace Go.Proofs.YtbmjjmianhjfiaaDoor
open Go.RowKit

section
variable {P : Program} {ops : Array Oper} {Q : Exit → Act → World → Prop} (Inv : (Nat → Bool) → Act → World → Prop)
theorem wpAny_inv
    (hup : ∀ (i : Nat) (o : Oper), ops[i]? = some o → ∀ e ∈ o.after, e.on < i)
    (hstep : ∀ (d : Nat → Bool) (a : Act) (w : World) (i : Nat) (o : Oper), ops[i]? = some o → d i = false → (∀ e ∈ o.after, Region.binds .any e = true → d e.on = true) → Inv d a w → wpOp P ops Q i (Inv fun j => j == i || d j) a w)
    (hend : ∀ d a w, (∀ j, j < ops.size → d j = true) → Inv d a w → Q .normal a w) :
    ∀ (fuel : Nat) (listed : Array Bool) (a : Act) (w : World), listed.size = ops.size → listed.toList.count false ≤ fuel → Inv (fun j => listed.getD j false) a w → wpAny P .any ops Q fuel listed a w := by
  have all : ∀ listed : Array Bool, listed.size = ops.size → Region.ready .any ops listed = [] → ∀ j, j < ops.size → listed.getD j false = true := by
    intro listed hs hr j
    induction j using Nat.strongRecOn with
    | _ j ih =>
      intro hj
      rcases hd : listed.getD j false with _ | _
      · exfalso
        have hj' : j < listed.size := by omega
        have hmem : j ∈ Region.ready .any ops listed := mem_ready.2 ⟨by simpa [hj'] using hd, ops[j], by simp [hj], fun e he _ => by
          have hlt := hup j ops[j] (by simp [hj]) e he
          exact ih e.on hlt (by omega)⟩
        rw [hr] at hmem
        cases hmem
      · rfl
  intro fuel
  induction fuel with
  | zero =>
    intro listed a w hs hc hI
    have hdone : ∀ j, j < ops.size → listed.getD j false = true := by
      intro j hj
      have hj' : j < listed.size := by omega
      cases hv : listed[j] with
      | true => simp [hj', hv]
      | false =>
        have hm : false ∈ listed.toList := by rw [← hv]; simp
        have := List.count_pos_iff.2 hm
        omega
    refine ⟨?_, hend _ a w hdone hI⟩
    apply List.eq_nil_iff_forall_not_mem.2
    intro j hj
    obtain ⟨h1, o, ho, -⟩ := mem_ready.1 hj
    have hlt : j < ops.size := (Array.getElem?_eq_some_iff.1 ho).1
    have hj' : j < listed.size := by omega
    have h2 := hdone j hlt
    simp [hj'] at h1 h2
    rw [h1] at h2
    cases h2
  | succ fuel ih =>
    intro listed a w hs hc hI
    refine ⟨fun h0 => hend _ a w (all listed hs h0) hI, fun i hi => ?_⟩
    obtain ⟨h1, o, ho, hdep⟩ := mem_ready.1 hi
    have hlt : i < ops.size := (Array.getElem?_eq_some_iff.1 ho).1
    have hi' : i < listed.size := by omega
    have h1' : listed.getD i false = false := by simpa [hi'] using h1
    refine wpOp_mono (fun a' w' h' => ?_) (hstep _ a w i o ho h1' (fun e he hb => hdep e he hb) hI)
    have hfun : (fun j => (listed.setIfInBounds i true).getD j false) = fun j => j == i || listed.getD j false := by
      funext j
      by_cases hj : j = i
      · subst hj; simp [hi']
      · have : (j == i) = false := by simpa using hj
        rw [this, Bool.false_or]
        simp [Ne.symm hj]
    refine ih (listed.setIfInBounds i true) a' w' (by simpa using hs) ?_ (by rw [hfun]; exact h')
    have hl : i < listed.toList.length := by simpa using hi'
    have hv' : listed.toList[i] = false := by simpa [hi'] using h1
    rw [Array.toList_setIfInBounds, List.count_set hl, hv']
    have hpos : 0 < listed.toList.count false := List.count_pos_iff.2 (by rw [← hv']; exact List.getElem_mem hl)
    show listed.toList.count false - 1 + 0 ≤ fuel
    omega

theorem wp_region_inv {id : Nat} {a : Act} {w : World} (hm : P.follows .mixedOrders = true)
    (hup : ∀ (i : Nat) (o : Oper), ops[i]? = some o → ∀ e ∈ o.after, e.on < i)
    (h0 : Inv (fun _ => false) a (w.drewN 1))
    (hstep : ∀ (d : Nat → Bool) (a : Act) (w : World) (i : Nat) (o : Oper), ops[i]? = some o → d i = false → (∀ e ∈ o.after, Region.binds .any e = true → d e.on = true) → Inv d a w → wpOp P ops Q i (Inv fun j => j == i || d j) a w)
    (hend : ∀ d a w, (∀ j, j < ops.size → d j = true) → Inv d a w → Q .normal a w) :
    (Code.region id ops true).wp P Q a w := by
  refine wp_region_any hm (wpAny_inv Inv hup hstep hend _ _ a _ (by simp) (by simp) ?_)
  have : (fun j => (Array.replicate ops.size false).getD j false) = fun _ => false := by
    funext j
    by_cases hj : j < ops.size <;> simp [hj]
  rw [this]
  exact h0
end
end Go.Proofs.YtbmjjmianhjfiaaDoor
