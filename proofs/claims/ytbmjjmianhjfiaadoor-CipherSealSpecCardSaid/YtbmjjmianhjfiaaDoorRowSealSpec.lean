/- The law CipherSealSpec returns true for every key, nonce and two texts, and leaves its arguments as they were. -/
import Derived.Test.YtbmjjmianhjfiaaDoorFrame
import Derived.Test.YtbmjjmianhjfiaaDoorSealSpec
namespace Go.Proofs.YtbmjjmianhjfiaaDoor.lawCipherSealSpec
open Go.ChangeShapes Go.WideShapes Go.ChangeAt Go.RowKit

theorem contract (H : Type) (enc : TypeId × Value → H) (W : World) (base : Nat) (args : Array Value) (ds gs : List (DataW H)) (before : List MemPlace)
    (hval : ∀ (j : Nat) t v, Tryd.f7.params[j]? = some t → args[j]? = some v → Value.okWide Tryd.prog W .any base t v)
    (hW : DataW.Whole enc Tryd.prog Tryd.f7.params.toList Rows.cipherSealSpecSpec.vars false W args.toList ds gs before) (hL : laidMetH Tryd.prog Rows.cipherSealSpecRow.laid W) :
    Calls Tryd.prog 7 args W fun e W' => ∃ v, e = .returned v ∧ Rows.cipherSealSpecSpec.post enc Tryd.prog Tryd.f7 false true false false W args v W' := by
  have hW' := hW
  obtain ⟨p, q, hA0, hV, rfl, -, -⟩ := hW
  have hA : DataW.TrodAll enc Tryd.prog W 0 (fun _ => true) true Tryd.f7.params.toList args.toList ds p := hA0
  rw [Tryd.params7] at hA hval
  obtain ⟨v0, vs0, d0, ds0, p0, q0, hargs, rfl, rfl, h0, r0⟩ := trodAll_cons hA
  obtain ⟨v1, vs1, d1, ds1, p1, q1, rfl, rfl, rfl, h1, r1⟩ := trodAll_cons r0
  obtain ⟨v2, vs2, d2, ds2, p2, q2, rfl, rfl, rfl, h2, r2⟩ := trodAll_cons r1
  obtain ⟨v3, vs3, d3, ds3, p3, q3, rfl, rfl, rfl, h3, r3⟩ := trodAll_cons r2
  obtain ⟨rfl, rfl, rfl⟩ := trodAll_nil r3
  obtain rfl : args = #[v0, v1, v2, v3] := by cases args; simp_all
  obtain ⟨rfl, rfl⟩ := trodVars_none hV
  obtain ⟨K, hK, rfl⟩ := open_bytes Tryd.underlying23 cells23 (hval 0 23 v0 rfl rfl) h0
  obtain ⟨N, hN, rfl⟩ := open_bytes Tryd.underlying25 cells25 (hval 1 25 v1 rfl rfl) h1
  obtain ⟨A2, n2, c2, x2, rfl, hc2, hm2, hn2, hr2⟩ := open_sl (hval 2 26 v2 rfl rfl) h2
  obtain ⟨A3, n3, c3, x3, rfl, hc3, hm3, hn3, hr3⟩ := open_sl (hval 3 26 v3 rfl rfl) h3
  have ht := tabs_of hL
  have hwalk : Calls Tryd.prog 7 #[.agg (K.map Y).toArray, .agg (N.map Y).toArray, .slice A2 n2 c2, .slice A3 n3 c3] W fun e W' => e = .returned (.bool true) ∧ Below W.heap.size W W' := by
    by_cases h : 400 < n3 ∧ n3 ≤ 65536 ∨ 70000 < n3 ∨ 400 < n2
    · exact sealSpec7_out K N A2 A3 n2 n3 c2 c3 W ht h
    · by_cases h2 : n3 ≤ 400
      · exact sealSpec7_in K N hK hN A2 A3 n2 n3 c2 c3 x2 x3 W ht hr2 hr3 hn2 hn3 (by omega) h2 hc3 hm3
      · exact sealSpec7_no K N hK hN A2 A3 n2 n3 c2 c3 x2 x3 W ht hr2 hr3 hn2 hn3 (by omega) (by omega) (by omega) hc3 hm3
  refine hwalk.mono fun e W' ⟨he, hb⟩ => ?_
  subst he
  refine ⟨_, rfl, post_true rfl (by kernel_rfl) hW' ?_ rfl rfl rfl hb⟩
  rw [Tryd.params7]
  intro t ht
  simp at ht
  rcases ht with rfl | rfl | rfl | rfl
  all_goals exact ⟨by kernel_rfl, of_decide_eq_true (by kernel_rfl)⟩

def args0 : Array Value := #[.agg ((zeroB 32).map Y).toArray, .agg ((zeroB 12).map Y).toArray, .slice none 0 0, .slice none 0 0]
theorem reads (os : Os) {H : Type} (enc : TypeId × Value → H) : ∃ places, DataW.whole enc Tryd.prog ((laidWorld os).forCall (fun _ _ => 0) ⟨#[], args0, []⟩).memory Tryd.f7.params.toList Rows.cipherSealSpecSpec.vars false args0.toList 8 = some ([.agg (List.replicate 32 (.lit (.int .u8 0))), .agg (List.replicate 12 (.lit (.int .u8 0))), .nil, .nil], [], places) :=
  ⟨[], by kernel_rfl⟩

set_option maxRecDepth 100000 in
theorem lifted (os : Os) (started : os.Started) (H : Type) (enc : TypeId × Value → H) (F : Stop.Interp) :
    ReturnsInHanded {} Tryd.checked os 7 .any ((OpenSpec.ofChange Rows.cipherSealSpecSpec).preRow enc Tryd.prog Tryd.f7 Rows.cipherSealSpecRow.domain false Rows.cipherSealSpecRow.laid) (((OpenSpec.ofChange Rows.cipherSealSpecSpec).at F).post enc Tryd.prog Tryd.f7 false true false false) := by
  obtain ⟨places, hx⟩ := reads os enc
  refine returnsInHanded_of_row (C := Tryd.checked) (s := OpenSpec.ofChange Rows.cipherSealSpecSpec) own started (by kernel_rfl) Tryd.func7
    (witness_row_at (enc := enc) (C := Tryd.checked) false (laidWorld os) args0 rfl (by kernel_rfl) (by kernel_rfl) (by kernel_rfl)
      (OpenSpec.preRow_of_cond 8 hx (by kernel_rfl) (fun k hk => by cases hk) (by kernel_rfl) (laid_met os _))) ?_
  intro W base args ds gs before hval hW _ _ _ hL _ _
  exact contract H enc W base args ds gs before hval hW hL

theorem said : Rows.CipherSealSpecSaid :=
  OpenClaim.holds_of_cond 7 Tryd.f7 rfl rfl rfl rfl rfl rfl rfl ⟨rfl, rfl, rfl, rfl, rfl⟩ rfl rfl rfl rfl rfl (by kernel_rfl) Tryd.func7 (by kernel_rfl)
    (of_decide_eq_true (by kernel_rfl)) (by unfold Func.isWrapper; first | (rw [if_pos (by decide +kernel)]; kernel_rfl) | (rw [if_neg (by decide +kernel)]; exact ⟨rfl, rfl⟩))
    (fun os started H enc _ F => by rw [OpenClaim.pre_eq_preRow]; exact lifted os started H enc F)

theorem plain (f : FuncId) (fn : Func) (hf : Tryd.pinned.checked.prog.funcNamed "chartroom/chartroomlaw06.CipherSealSpec" = some f) (hfn : Tryd.pinned.checked.prog.funcs[f]? = some fn) :
    false = Tryd.pinned.checked.prog.looks [] ∧ ∀ (j : Nat) t, fn.params[j]? = some t → Tryd.pinned.checked.prog.wantsStandIn t = false :=
  plain_of (g := 7) (by kernel_rfl) Tryd.func7 Tryd.params7 (fun t ht => by
    simp at ht
    rcases ht with rfl | rfl | rfl | rfl
    all_goals kernel_rfl) f fn hf hfn

theorem card : Rows.CipherSealSpecCardSaid :=
  Claim7.holds_tied_plain_at .later [] _ _ _ _ said (fun _ h => by cases h) (by kernel_rfl) (fun _ h => by cases h) cipherSealSpec_row_tie rfl ⟨rfl, rfl⟩ (by kernel_rfl) rfl plain (by kernel_rfl)
#print axioms card
end Go.Proofs.YtbmjjmianhjfiaaDoor.lawCipherSealSpec
