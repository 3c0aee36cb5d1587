/- How a law's row is closed: arguments that are arrays, slices of bytes and numbers are opened; behind the call they read as they did; the three tables out of the row's list. -/
import Derived.Test.YtbmjjmianhjfiaaDoorCards
import Derived.Test.YtbmjjmianhjfiaaDoorTie
import Derived.Test.YtbmjjmianhjfiaaDoorLawIn
import Derived.ProofKit
import Derived.OpenShut
import Derived.Deep.DeepHandedRow
import Derived.Deep.Slices
import Derived.Lib.LaidTab
namespace Go.Proofs.YtbmjjmianhjfiaaDoor
open Go.ChangeShapes Go.WideShapes Go.ChangeAt Go.RowKit

theorem own : ownKnob Tryd.prog.godebug = none := by kernel_rfl
theorem laidOut : laidOutB Tryd.prog = true := by kernel_rfl
theorem gT0 : Tryd.prog.globalNamed "chartroom/digest.start" = some 0 := by kernel_rfl
theorem gT1 : Tryd.prog.globalNamed "chartroom/digest.numbers" = some 1 := by kernel_rfl
theorem gT2 : Tryd.prog.globalNamed "chartroom/cipher.constants" = some 2 := by kernel_rfl
theorem tT0 : (Tryd.prog.globals[0]?).map (·.type) = some 57 := by kernel_rfl
theorem tT1 : (Tryd.prog.globals[1]?).map (·.type) = some 71 := by kernel_rfl
theorem tT2 : (Tryd.prog.globals[2]?).map (·.type) = some 75 := by kernel_rfl
theorem cells50 : Tryd.prog.cellsOf 50 = 1 := by kernel_rfl
theorem cells57 : Tryd.prog.cellsOf 57 = 8 := by kernel_rfl
theorem cells71 : Tryd.prog.cellsOf 71 = 64 := by kernel_rfl
theorem cells75 : Tryd.prog.cellsOf 75 = 4 := by kernel_rfl
theorem cells5 : Tryd.prog.cellsOf 5 = 1 := by kernel_rfl
theorem cells23 : Tryd.prog.cellsOf 23 = 32 := by kernel_rfl
theorem cells25 : Tryd.prog.cellsOf 25 = 12 := by kernel_rfl

/-- What every row of this seat lists. -/
def lists : List (String × DataW Unit) := [("chartroom/digest.start", Rows.laid_chartroom_digest_start), ("chartroom/digest.numbers", Rows.laid_chartroom_digest_numbers), ("chartroom/cipher.constants", Rows.laid_chartroom_cipher_constants)]
theorem dT0 : Rows.laid_chartroom_digest_start (H := Unit) = Lib.tabData .u32 (startS.map U) := by kernel_rfl
theorem dT1 : Rows.laid_chartroom_digest_numbers (H := Unit) = Lib.tabData .u32 (numbersS.map U) := by kernel_rfl
theorem dT2 : Rows.laid_chartroom_cipher_constants (H := Unit) = Lib.tabData .u32 (constsS.map U) := by kernel_rfl

theorem lay_of_var {w : World} {name : String} {g : Nat} {L : List (BitVec 32)} (hg : Tryd.prog.globalNamed name = some g) (h : w.var? Tryd.prog name = some ((L.map U).map fun z => Value.int .u32 z).toArray) : Lay w g L := by
  unfold World.var? at h
  rw [hg] at h
  simp only [Option.bind_some] at h
  split at h
  · rename_i cs t fr hh
    injection h with h
    subst h
    exact ⟨t, fr, by rw [hh]; simp [W]⟩
  · cases h

theorem tabs_of {w : World} (h : laidMetH Tryd.prog lists w) : Tabs w := by
  have h2 : laidMet Tryd.prog lists w := h
  unfold lists at h2
  rw [dT0, dT1, dT2] at h2
  obtain ⟨ps, ⟨g, t, cs, fuel, p, q, hg, ht, hvar, hd, ⟨g', t', cs', fuel', p', q', hg', ht', hvar', hd', ⟨g3, t3, cs3, fuel3, p3, q3, hg3, ht3, hvar3, hd3, -, -⟩, -⟩, -⟩, -⟩ := h2
  obtain rfl := Option.some.inj (gT0.symm.trans hg)
  obtain rfl := Option.some.inj (gT1.symm.trans hg')
  obtain rfl := Option.some.inj (gT2.symm.trans hg3)
  obtain rfl := Option.some.inj (tT0.symm.trans ht)
  obtain rfl := Option.some.inj (tT1.symm.trans ht')
  obtain rfl := Option.some.inj (tT2.symm.trans ht3)
  have e0 := Lib.cells_of_tab Tryd.underlying57 Tryd.underlying50 cells50 cells57 hd
  have e1 := Lib.cells_of_tab Tryd.underlying71 Tryd.underlying50 cells50 cells71 hd'
  have e2 := Lib.cells_of_tab Tryd.underlying75 Tryd.underlying50 cells50 cells75 hd3
  refine ⟨lay_of_var gT0 ?_, lay_of_var gT1 ?_, (lay_of_var gT2 ?_).tab⟩
  · rw [hvar, ← e0]
  · rw [hvar', ← e1]
  · rw [hvar3, ← e2]

section
variable {H : Type} {enc : TypeId × Value → H} {W W' : World} {base : Nat} {sp : Nat → Bool} {held : Bool}

theorem wf_B {n : Int} (h : (Lit.int .u8 n).wf = true) : B (BitVec.ofInt 8 n) = n := by
  have hb : 0 ≤ n ∧ n ≤ 255 := by simpa [Lit.wf, IntKind.min, IntKind.max, IntKind.signed, IntKind.bits] using h
  unfold B
  rw [BitVec.toNat_ofInt]; omega
theorem bytes_of {l : List Value} {n : Nat} (hl : l.length = n) (h : ∀ i, i < n → ∃ b : BitVec 8, l[i]? = some (Y b)) : ∃ K : List (BitVec 8), K.length = n ∧ l = K.map Y := by
  subst hl
  induction l with
  | nil => exact ⟨[], rfl, rfl⟩
  | cons x l ih =>
    obtain ⟨b, hb⟩ := h 0 (by simp)
    obtain ⟨K, hK, e⟩ := ih fun i hi => by
      have := h (i + 1) (by simpa using hi)
      simpa using this
    simp at hb
    exact ⟨b :: K, by simp [hK], by simp [hb, e]⟩

/-- An array of bytes that came in. -/
theorem open_bytes {t n : Nat} (hu : Tryd.prog.underlying t = some (.array n 5)) (hc : Tryd.prog.cellsOf t = n) {r : Reach} {b0 : Nat} {v : Value} {d : DataW H} {ps : List MemPlace}
    (hval : Value.okWide Tryd.prog W r b0 t v) (h : DataW.Trod enc Tryd.prog W base sp held t v d ps) : ∃ K : List (BitVec 8), K.length = n ∧ v = .agg (K.map Y).toArray := by
  simp only [Value.okWide, hu] at hval
  obtain ⟨cs, rfl, hsz, -⟩ := hval
  obtain ⟨fuel, hf⟩ := h
  obtain ⟨xs, m, -, -, -, hxl, hx⟩ := DataW.trod_array hu hf
  have hcs : cs.size = n := by rw [hsz, hc]
  have hall : ∀ i, i < n → ∃ b : BitVec 8, cs.toList[i]? = some (Y b) := by
    intro i hi
    have h1 := hx i hi
    rw [cells5, List.getElem?_eq_getElem (by omega)] at h1
    obtain ⟨z, hz, -, hw⟩ := DataW.trod_int Tryd.underlying5 h1
    refine ⟨BitVec.ofInt 8 z, ?_⟩
    have := congrArg (·[0]?) hz
    simp only [Value.cells, Nat.mul_one] at this
    rw [List.getElem?_take, if_pos (by omega), List.getElem?_drop] at this
    simpa [Y, wf_B hw] using this
  obtain ⟨K, hK, e⟩ := bytes_of (by simpa using hcs) hall
  refine ⟨K, hK, ?_⟩
  rw [← e]

/-- A slice of bytes that came in. -/
theorem open_sl {r : Reach} {b0 : Nat} {v : Value} {d : DataW H} {ps : List MemPlace} (hval : Value.okWide Tryd.prog W r b0 26 v) (h : DataW.Trod enc Tryd.prog W base sp held 26 v d ps) :
    ∃ (A : Option Addr) (n c : Nat) (xs : List (BitVec 8)), v = .slice A n c ∧ n ≤ c ∧ c ≤ maxLen ∧ xs.length = n ∧ Rd W A xs := by
  simp only [Value.okWide, Tryd.underlying26] at hval
  obtain ⟨fuel, hf⟩ := h
  rcases open_ints Tryd.underlying26 Tryd.underlying5 cells5 hf with ⟨hcs, -⟩ | ⟨a, len, cap, zs, hcs, -, hl, hm, hz, -, hcell, hwz⟩
  · have hv : v = .slice none 0 0 := by
      cases v <;> simp_all [Value.cells, Cell.okWide, Cell.ok, Tryd.underlying26]
    subst hv
    exact ⟨none, 0, 0, [], rfl, by omega, by simp [maxLen], rfl, Rd.nil _ _⟩
  · have hv : v = .slice (some a) len cap := by
      cases v <;> simp_all [Value.cells, Cell.okWide, Cell.ok, Tryd.underlying26]
    subst hv
    have hspot : a.spot = none := by
      simp only [Cell.okWide, Cell.ok, Tryd.underlying26] at hval
      exact hval.2.2.2.1
    obtain ⟨b, off, spot⟩ := a
    obtain rfl : spot = none := hspot
    have hzl : len ≤ zs.length := by rw [hz]; split <;> omega
    refine ⟨_, _, _, (zs.take len).map (BitVec.ofInt 8), rfl, hl, hm, by simp; omega, fun _ => ⟨b, off, rfl, fun i hi => ?_⟩⟩
    simp at hi
    have hadd : (⟨b, off, none⟩ : Addr).add i = ⟨b, off + i, none⟩ := by unfold Addr.add; split <;> simp_all
    have h1 := hcell i (by omega)
    rw [hadd] at h1
    rw [h1]
    have hwi := hwz (zs.getD i 0) (by rw [List.getD, List.getElem?_eq_getElem (by omega)]; exact List.getElem_mem _)
    have e : ((zs.take len).map (BitVec.ofInt 8)).getD i 0 = BitVec.ofInt 8 (zs.getD i 0) := by
      have hlt : i < zs.length := by omega
      simp [List.getD, hi, hlt]
    rw [e, wf_B hwi]

/-- Arguments read behind the call as they did. -/
theorem args_stay {W W' : World} (hb : Below W.heap.size W W') (sp' : Nat → Bool) : ∀ {ts : List TypeId} {vs : List Value} {ds : List (DataW H)} {ps : List MemPlace},
    (∀ t ∈ ts, Tryd.prog.readableRec t = true ∧ t < Tryd.prog.types.size) → DataW.TrodAll enc Tryd.prog W 0 (fun _ => true) true ts vs ds ps → (∀ x ∈ ps, x.block < W.heap.size) → (∀ x ∈ ps, sp' x.block = true) →
    DataW.TrodAll enc Tryd.prog W' 0 sp' true ts vs ds ps
  | [], [], [], _, _, h, _, _ => h
  | [], _ :: _, _, _, _, h, _, _ => h.elim
  | [], [], _ :: _, _, _, h, _, _ => h.elim
  | _ :: _, [], _, _, _, h, _, _ => h.elim
  | _ :: _, _ :: _, [], _, _, h, _, _ => h.elim
  | t :: ts, _ :: _, _ :: _, _, ht, ⟨p, q, h1, h2, e⟩, hlt, hs => ⟨p, q,
      WideElems.Trod_stays laidOut (ht t (by simp)).1 (ht t (by simp)).2 h1 (fun x hx => hb.same (hlt x (by rw [e]; simp [hx]))) (fun x hx => hs x (by rw [e]; simp [hx])),
      args_stay hb sp' (fun t ht' => ht t (by simp [ht'])) h2 (fun x hx => hlt x (by rw [e]; simp [hx])) (fun x hx => hs x (by rw [e]; simp [hx])), e⟩

/-- The row's last step: below the old heap nothing turned; the answer is true. -/
theorem post_true {f : Func} {s : ChangeSpec} {apart fresh handsOn again : Bool} {args : Array Value} {ds gs : List (DataW H)} {before : List MemPlace} (hvars : s.vars = []) (hres : f.resultTypes = #[4])
    (hW : DataW.Whole enc Tryd.prog f.params.toList s.vars apart W args.toList ds gs before) (hts : ∀ t ∈ f.params.toList, Tryd.prog.readableRec t = true ∧ t < Tryd.prog.types.size)
    (hr : (s.fn H (ds ++ gs)).results = [.lit (.bool true)]) (ha : (s.fn H (ds ++ gs)).args = ds) (hv : (s.fn H (ds ++ gs)).vars = []) (hb : Below W.heap.size W W') :
    s.post enc Tryd.prog f apart fresh handsOn again W args (.bool true) W' := by
  have hlt : ∀ p ∈ before, p.block < W.heap.size := fun p hp => hW.lt p hp
  have hold : ∀ p ∈ before, (fun b => decide (b < W.heap.size)) p.block = true := fun p hp => by simpa using hlt p hp
  have hW2 := hW
  obtain ⟨p, q, hA, hV, hbe, hz, hn⟩ := hW2
  rw [hvars] at hV
  obtain ⟨rfl, rfl⟩ := trodVars_none hV
  obtain rfl : before = p := by simpa using hbe
  have hargs : ∀ sp : Nat → Bool, (∀ x ∈ before, sp x.block = true) → DataW.TrodAll enc Tryd.prog W' 0 sp true f.params.toList args.toList (s.fn H (ds ++ [])).args before := fun sp hsp => by
    rw [ha]; exact args_stay hb sp hts hA hlt hsp
  have hvv : ∀ sp : Nat → Bool, DataW.TrodVars enc Tryd.prog W' sp s.vars (s.fn H (ds ++ [])).vars [] := fun sp => by
    rw [hvars, hv]; rfl
  have hrr : ∀ (b : Nat) (sp : Nat → Bool) (hd : Bool), DataW.TrodAll enc Tryd.prog W' b sp hd f.resultTypes.toList ((Value.bool true).resultList f.resultTypes.size) (s.fn H (ds ++ [])).results [] := fun b sp hd => by
    rw [hr, hres]; exact trodAll_cons_mk (shut_bool Tryd.underlying4 true) trodAll_mk0
  refine ⟨ds, [], before, [], before, [], hW, hrr _ _ _, hargs _ hold, hvv _, World.keptBut_mono (fun p hp => ⟨hp, by simpa using hp⟩) (hb.frame (· ∈ before)), fun _ => ⟨?_, ?_⟩⟩
  · exact ok_one hres rfl (okWide_bool_mk Tryd.underlying4 true)
  · refine ⟨_, _, ([] ++ before) ++ [], ⟨[] ++ before, [], trodAll_append (hargs _ (fun _ _ => rfl)) (hrr _ _ _), hvv _, rfl, ?_, ?_⟩, ?_⟩
    · intro b off hp
      have hin : MemPlace.cell b off ∈ before := by simpa using hp
      rw [hb.frozen (hlt _ hin)]
      exact hz b off hin
    · intro ha
      simpa using hn ha
    · intro p hp _
      simpa using hp
end

def laidCells (cs : Array Value) : Obj → Obj
  | .cells _ t frozen => .cells cs t frozen
  | o => o
/-- A world for the witness: the three tables hold what their initialisers lay. -/
noncomputable def laidWorld (os : Os) : World :=
  { World.holding Tryd.prog os ⟨#[], #[], []⟩ with heap := (((World.holding Tryd.prog os ⟨#[], #[], []⟩).heap.modify 0 (laidCells (startS.map W).toArray)).modify 1 (laidCells (numbersS.map W).toArray)).modify 2 (laidCells (constsS.map W).toArray) }
theorem laid_met (os : Os) (args : Array Value) : laidMet Tryd.prog lists ((laidWorld os).forCall (fun _ _ => 0) ⟨#[], args, []⟩).memory :=
  laidMet_of_run' 8 (by kernel_rfl) (by kernel_rfl)
/-- No parameter of these types wants a stand-in. -/
theorem plain_of {name : String} {g : FuncId} {gn : Func} {ts : Array TypeId} (hg : Tryd.prog.funcNamed name = some g) (hgn : Tryd.prog.funcs[g]? = some gn) (hps : gn.params = ts) (hts : ∀ t ∈ ts.toList, Tryd.prog.wantsStandIn t = false)
    (f : FuncId) (fn : Func) (hf : Tryd.pinned.checked.prog.funcNamed name = some f) (hfn : Tryd.pinned.checked.prog.funcs[f]? = some fn) :
    false = Tryd.pinned.checked.prog.looks [] ∧ ∀ (j : Nat) t, fn.params[j]? = some t → Tryd.pinned.checked.prog.wantsStandIn t = false := by
  obtain rfl : g = f := Option.some.inj (hg.symm.trans hf)
  obtain rfl : gn = fn := Option.some.inj (hgn.symm.trans hfn)
  refine ⟨by kernel_rfl, fun j t ht => hts t ?_⟩
  rw [hps] at ht
  exact Array.mem_toList_iff.2 (Array.mem_of_getElem? ht)
end Go.Proofs.YtbmjjmianhjfiaaDoor
