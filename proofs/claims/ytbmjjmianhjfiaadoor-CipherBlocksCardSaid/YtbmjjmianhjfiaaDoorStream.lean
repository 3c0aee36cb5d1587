/- What Stream returns: each byte of the text with its byte of the key stream over it, in memory of its own; an error above 65536 bytes. -/
import Derived.Test.YtbmjjmianhjfiaaDoorStreamS
namespace Go.Proofs.YtbmjjmianhjfiaaDoor
open Go.RowKit Go.Shelf
attribute [local go_sem] Oper.semAt_some

/-- Memory in the rounds of 'Stream': the key's box and the nonce's, the counter's, the bytes that are turned. -/
structure In15 (w0 : World) (K N : List (BitVec 8)) (gc g cap : Nat) (s : List (BitVec 8) × BitVec 32) (w : World) : Prop where
  key : Blk w w0.heap.size 23 (K.map Y)
  non : Blk w (w0.heap.size + 1) 25 (N.map Y)
  cnt : Blk w gc 50 [.int .u32 (U s.2)]
  own : Own w (w0.heap.size + 2) (.slice (some ⟨g, 0, none⟩) s.1.length cap) s.1
  tab : Tab w 2 constsS
  old : Below w0.heap.size w0 w

theorem wpListIn_load_row {F : Fence} {nF : Nat} {P : Program} {ops : Array Oper} {rest : List Oper} {o : Oper} {a : Act} {w : World} {Q : Exit → Act → World → Prop} (hgd : o.guard = none) (ty : TypeId) (x : Operand) (ho : o.op = .load ty x)
    (g : Nat) (hx : a.eval x = .pointer (some ⟨g, 0, none⟩)) (t : TypeId) (cs : Array Value) (fr : Nat × Nat) (d : TypeDesc) (hg : w.heap[g]? = some (.cells cs t fr))
    (hu : P.underlying ty = some d) (hd : (match d with | .struct _ | .array _ _ => true | _ => false) = true) (hi : (P.info? ty).map (·.size) = some cs.size)
    (h : wpListIn F nF P ops Q rest (a.put o.dst (.agg cs)) w) : wpListIn F nF P ops Q (o :: rest) a w := by
  refine wpListIn_plain hgd fun K hK => ?_
  unfold Oper.wpIn
  refine ⟨fun f hf => by simp [Oper.about, ho] at hf, ?_⟩
  rw [Oper.semAt_plain F _ _ (by rw [ho]; intro c hc'; cases hc')]
  unfold execOp
  simp only [ho, hx, Instr.loadAt, Instr.sureAddr, Sem.run_bind, Sem.run_pure, Result.andThen_ok, run_loadVar_row w g t ty cs fr d hg hu hd hi]
  exact hK _ _ h
theorem atIn_load {F : Fence} {nF : Nat} {P : Program} {ops : Array Oper} {Q : Exit → Act → World → Prop} {dst : Option Tmp} {x : Operand} {t : TypeId} {pos : String} {aft : Array Edge} {rest : List Oper} {a : Act} {w : World} (ty : TypeId)
    (h : wpListIn F nF P ops Q ({ dst := dst, op := .load ty x, type := t, pos := pos, after := aft, guard := none } :: rest) a w) :
    wpListIn F nF P ops Q ({ dst := dst, op := .load ty x, type := t, pos := pos, after := aft, guard := none } :: rest) a w := h

theorem In15.kept {w0 w w' : World} {K N : List (BitVec 8)} {gc g cap : Nat} {s : List (BitVec 8) × BitVec 32} {row : Option Nat} (h : In15 w0 K N gc g cap s w) (hg : w.grownBy w' row)
    (B : Nat) (_hB : w0.heap.size ≤ B) (hgk : w0.heap.size + 1 < B) (hgc : gc < B) (hgg : g < B) (h2 : 2 < B) (hBw : B ≤ w.heap.size) (hr : ∀ r, row = some r → B ≤ r) : In15 w0 K N gc g cap s w' := by
  have ne : ∀ k, k < B → some k ≠ row := fun k hk e => by have := hr k e.symm; omega
  refine ⟨h.key.grown hg (ne _ (by omega)), h.non.grown hg (ne _ hgk), h.cnt.grown hg (ne _ hgc), h.own.kept hg (.inr (fun e => ?_)), fun i hi => ?_, h.old.grown hg (by omega) (fun k e => by have := hr k e; omega)⟩
  · exact ne g hgg e
  · exact (World.cell?_of_block (hg.block 2 (by omega) (ne 2 h2))).trans (h.tab i hi)
theorem Own.put {w : World} {base g cap : Nat} {xs : List (BitVec 8)} (h : Own w base (.slice (some ⟨g, 0, none⟩) xs.length cap) xs) (i : Nat) (b : BitVec 8) :
    Own (w.setCell ⟨g, i, none⟩ (Y b)) base (.slice (some ⟨g, 0, none⟩) xs.length cap) (xs.set i b) := by
  refine ⟨by simp, ?_⟩
  rcases h.2 with ⟨e, _⟩ | ⟨g', cap', cur, e, hg, hh, hnc, hcm, hcs, htake⟩
  · cases e
  · injection e with e1 e2 e3
    injection e1 with e1
    injection e1 with e1
    subst e1 e3
    refine .inr ⟨g, cap, cur.setIfInBounds i (Y b), by simp, hg, heap_setCell_same w g i cur 5 _ hh, by simpa using hnc, hcm, by simpa using hcs, ?_⟩
    rw [Array.toList_setIfInBounds, List.map_set, ← htake, List.take_set]
    simp
theorem Own.cell {w : World} {base g cap : Nat} {xs : List (BitVec 8)} (h : Own w base (.slice (some ⟨g, 0, none⟩) xs.length cap) xs) (i : Nat) (hi : i < xs.length) :
    w.cell? ⟨g, i, none⟩ = some (.int .u8 (B (xs.getD i 0))) := by
  obtain ⟨b, off, e, hc⟩ := Rd.of_own h (by omega)
  injection e with e
  injection e with e1 e2
  subst e1 e2
  simpa using hc i hi
theorem Own.free {w : World} {base g cap : Nat} {xs : List (BitVec 8)} (h : Own w base (.slice (some ⟨g, 0, none⟩) xs.length cap) xs) (i : Nat) : w.frozen? ⟨g, i, none⟩ = false := by
  rcases h.2 with ⟨e, _⟩ | ⟨g', cap', cur, e, hg, hh, hnc, hcm, hcs, htake⟩
  · cases e
  · injection e with e1 e2 e3
    injection e1 with e1
    injection e1 with e1
    subst e1
    exact frozen_of_row w g i _ _ hh
theorem Own.some {w : World} {base : Nat} {v : Value} {xs : List (BitVec 8)} (h : Own w base v xs) (h0 : 0 < xs.length) : ∃ g cap, v = .slice (some ⟨g, 0, none⟩) xs.length cap ∧ xs.length ≤ cap ∧ cap ≤ maxLen ∧ base ≤ g ∧ g < w.heap.size := by
  rcases h.2 with ⟨_, e⟩ | ⟨g', cap', cur, e, hg, hh, hnc, hcm, hcs, htake⟩
  · omega
  · exact ⟨g', cap', e, hnc, hcm, hg, (Array.getElem?_eq_some_iff.1 hh).1⟩
theorem In15.turn {w0 w : World} {K N : List (BitVec 8)} {gc g cap : Nat} {ys : List (BitVec 8)} {ct : BitVec 32} (h : In15 w0 K N gc g cap (ys, ct) w) (hc : gc ≠ g) (hg : w0.heap.size + 2 ≤ g) (h2 : 2 < w0.heap.size) (i : Nat) (b : BitVec 8) :
    In15 w0 K N gc g cap (ys.set i b, ct) (w.setCell ⟨g, i, none⟩ (Y b)) := by
  refine ⟨h.key.far (by show w0.heap.size ≠ g; omega) _, h.non.far (by show w0.heap.size + 1 ≠ g; omega) _, h.cnt.far hc _, ?_, fun j hj => ?_, ?_⟩
  · have := Own.put (xs := ys) h.own i b
    simpa using this
  · exact (World.cell?_of_block (Below.heap_setCell w ⟨g, i, none⟩ _ 2 (by show 2 ≠ g; omega))).trans (h.tab j hj)
  · exact below_only h.old h.old.size (only_put (World.grownBy.refl w (some g)) (p := ⟨g, i, none⟩) (.inl rfl) (Y b)) (by omega)
theorem In15.count {w0 w : World} {K N : List (BitVec 8)} {gc g cap : Nat} {ys : List (BitVec 8)} {ct : BitVec 32} (h : In15 w0 K N gc g cap (ys, ct) w) (hc : gc ≠ g) (hg : w0.heap.size + 2 ≤ gc) (h2 : 2 < w0.heap.size) (c : BitVec 32) :
    In15 w0 K N gc g cap (ys, c) (w.setCell ⟨gc, 0, none⟩ (.int .u32 (U c))) := by
  refine ⟨h.key.far (by show w0.heap.size ≠ gc; omega) _, h.non.far (by show w0.heap.size + 1 ≠ gc; omega) _, h.cnt.put 0 _, ?_, fun j hj => ?_, ?_⟩
  · exact h.own.kept (only_put (World.grownBy.refl w (some gc)) (p := ⟨gc, 0, none⟩) (.inl rfl) _) (.inr (by simp [Value.ownBlock]; omega))
  · exact (World.cell?_of_block (Below.heap_setCell w ⟨gc, 0, none⟩ _ 2 (by show 2 ≠ gc; omega))).trans (h.tab j hj)
  · exact below_only h.old h.old.size (only_put (World.grownBy.refl w (some gc)) (p := ⟨gc, 0, none⟩) (.inl rfl) _) (by omega)
theorem length_blockS' (K N : List (BitVec 8)) (c : BitVec 32) : (blockS K N c).length = 64 := by simp [length_blockS]
set_option maxRecDepth 100000 in
set_option maxHeartbeats 1000000 in
theorem Stream15_pos (K N : List (BitVec 8)) (hK : K.length = 32) (hN : N.length = 12) (A : Option Addr) (n c : Nat) (xs : List (BitVec 8)) (w : World) (hT : Tab w 2 constsS) (hr : Rd w A xs) (hn : xs.length = n) (h0 : 0 < n) (hsz : n ≤ 65536) :
    Calls Tryd.prog 15 #[.agg (K.map Y).toArray, .agg (N.map Y).toArray, .slice A n c] w fun e w' => ∃ v, e = .returned (.tuple #[v, .int .i64 0]) ∧ Own w' w.heap.size v (streamS K N xs) ∧ Below w.heap.size w w' := by
  have b2 := boxB w K N
  have HC := Lib.hid (clone25 A n c xs _ (hr.below b2 (Nat.le_refl _)) hn (by omega))
  have n1 : (n : Int) ≤ 65536 := by omega
  have n2 : ¬ (65536 : Int) < (n : Int) := by omega
  refine (callsIn_wide (n := 3)).1 ?_
  refine callsIn_of_wp_marks Tryd.func15 rfl trivial ?_ rfl
  simp only [Tryd.ntmps15, List.size_toArray, List.length_cons, List.length_nil, Nat.reduceAdd, Nat.reduceSub, Array.replicate_succ, Array.replicate_zero, List.push_toArray, List.append_toArray, List.nil_append, List.cons_append]
  gi_wp2_with (refine ⟨trivial, ?_⟩; gi_at_call 25; refine (callsIn_wide.2 HC.out).mono ?_; rintro e w1 ⟨v, rfl, hv, hb1⟩)
  rcases hv.2 with ⟨rfl, hz⟩ | ⟨g, cap, cur, rfl, hg, hh, hnc, hcm, hcs, htake⟩
  · omega
  rw [hn] at hnc
  refine ⟨trivial, ?_⟩
  refine (callsIn_wide.2 (chunk26 _ _ _ _)).mono ?_
  rintro e w2 ⟨rfl, rfl⟩
  gi_wp2_with (fail)
  obtain ⟨ws, hws⟩ : ∃ ws, ws = (((w1.alloc (.cells #[.int .u32 1] 50)).alloc (.cells #[.slice (some ⟨g, 0, none⟩) n cap] 26)).alloc (.cells #[.int .i64 64] 3)) := ⟨_, rfl⟩
  rw [← hws]
  have b3 : Below w1.heap.size w1 ws := by rw [hws]; exact (((Below.refl _ w1).alloc (Nat.le_refl _) _).alloc (by simp) _).alloc (by simp; omega) _
  have hs3 : ws.heap.size = w1.heap.size + 3 := by rw [hws]; simp
  have hcb : ws.cell? ⟨w1.heap.size + 1, 0, none⟩ = some (.slice (some ⟨g, 0, none⟩) n cap) := by
    rw [hws]
    have := Blk.alloc (Blk.new (w1.alloc (.cells #[.int .u32 1] 50)) 26 [.slice (some ⟨g, 0, none⟩) n cap]) (.cells #[.int .i64 64] 3)
    simpa using this.at 0
  have hcn : ws.cell? ⟨w1.heap.size + 2, 0, none⟩ = some (.int .i64 64) := by
    rw [hws]
    have := Blk.new ((w1.alloc (.cells #[.int .u32 1] 50)).alloc (.cells #[.slice (some ⟨g, 0, none⟩) n cap] 26)) 3 [.int .i64 64]
    simpa using this.at 0
  have hgt : g < w1.heap.size := (Array.getElem?_eq_some_iff.1 hh).1
  have hg2 : w.heap.size + 2 ≤ g := by simpa using hg
  have hw1 : w.heap.size + 2 ≤ w1.heap.size := by omega
  have h2lt : 2 < w.heap.size := by have := block_lt_of_cell (hT 0 (by decide)); simpa using this
  have hIn : In15 w K N w1.heap.size g cap (xs, 1#32) ws := by
    refine ⟨((boxK w K N).kept hb1).below b3 (by omega), ((boxN w K N).kept hb1).below b3 (by omega), ?_, ?_, hT.below ((b2.trans (hb1.mono (by simp; omega))).trans (b3.mono (by omega))) (Nat.le_refl _), ?_⟩
    · rw [hws]
      exact ((Blk.new w1 50 [.int .u32 1]).alloc _).alloc _
    · have := (hv.mono (base' := w.heap.size + 2) (by simp)).below b3
      exact this
    · exact (b2.trans (hb1.mono (by simp; omega))).trans (b3.mono (by omega))
  clear hws
  refine wpIn_rangeFunc_ownG rfl (by omega) (gf := 34) (lb := #[.pointer (some ⟨w1.heap.size + 1, 0, none⟩), .pointer (some ⟨w1.heap.size + 2, 0, none⟩)]) rfl trivial (enters_of Tryd.func34 (by kernel_rfl) rfl)
    (chunk_stops 2 (by omega) (w1.heap.size + 1) (w1.heap.size + 2) g n cap h0 hnc (by omega) ws hcb hcn) (fun h k => h.trans k)
    (fun W l o o' hl _ _ _ => ⟨World.putObj_heap_other (by omega), World.putObj_heap_other (by omega)⟩) (Below.refl _ _) (fun _ => rfl)
    (fun pre W => In15 w K N w1.heap.size g cap (roundsC K N n xs pre) W ∧ ws.heap.size ≤ W.heap.size) (fun _ _ _ => False)
    (fun s A B row h hg' hr => ⟨h.1.kept hg' ws.heap.size (by omega) (by omega) (by omega) (by omega) (by omega) h.2 (fun r e => (hr r e).1), Nat.le_trans h.2 hg'.size⟩)
    (fun _ _ _ _ _ hs _ _ => hs) ⟨hIn, Nat.le_refl _⟩
    (fun x => { tmps := #[.agg (K.map Y).toArray, .agg (N.map Y).toArray, .slice A n c, .pointer (some ⟨w.heap.size, 0, none⟩), .pointer (some ⟨w.heap.size + 1, 0, none⟩), undef, .slice (some ⟨g, 0, none⟩) n cap, .int .i64 0,
        .pointer (some ⟨w1.heap.size, 0, none⟩), .slice (some ⟨g, 64 * chunkNo n x, none⟩) (chunkLen n x) (chunkLen n x), undef, undef, .slice A n c, .int .i64 n, .bool false, .slice A n c, .slice (some ⟨g, 0, none⟩) n cap, .slice (some ⟨g, 0, none⟩) n cap,
        .func (.func 34) #[] #[.pointer (some ⟨w1.heap.size + 1, 0, none⟩), .pointer (some ⟨w1.heap.size + 1 + 1, 0, none⟩)],
        .slice (some ⟨g, 64 * chunkNo n x, none⟩) (chunkLen n x) (chunkLen n x), undef, undef, undef, undef, undef, undef, undef, undef, undef, undef, undef, undef, undef, undef, undef, undef, undef, undef, undef, undef, undef, undef, undef, undef], defers := [] }) ?assign ?body ?done ?stop
  case assign =>
    intro l x W K' hK'
    simp only [encC]
    gi_wp2
    exact hK'
  case stop =>
    intro D c' pre W _ _ h _
    exact h.elim
  case done =>
    rintro D ys W hD rfl ⟨hm, hsz2⟩ hDd
    gi_wp2
    refine ⟨by simp, .inl ⟨_, _, rfl, run_takeDeferred hDd, ?_⟩⟩
    have hb5 : Below ws.heap.size W (W.putObj D (.deferred none)) := belowK_b (Nat.le_refl _) W D _ _ hD hDd rfl rfl
    have hst : (roundsC K N n xs (List.range ((n + 63) / 64))).1 = streamS K N xs := by subst hn; exact roundsC_stream K N xs
    have hl : (roundsC K N n xs (List.range ((n + 63) / 64))).1.length = n := by rw [length_roundsC, hn]
    refine ⟨_, results_tmp2 rfl _ _ _, _, rfl, ?_, hm.old.trans (hb5.mono (by omega))⟩
    have h5 : Own (W.putObj D (.deferred none)) (w.heap.size + 2) _ _ := ownsRow_putObj hm.own _ hDd rfl
    rw [hst] at h5
    rw [← hst, hl, hst] at h5
    exact h5.mono (by omega)
  case body =>
    rintro l pre x W ⟨hm, hsz2⟩ hlen
    have hpl : ((roundsC K N n xs pre).1).length = n := by rw [length_roundsC, hn]
    obtain ⟨s, hs⟩ : ∃ s, s = roundsC K N n xs pre := ⟨_, rfl⟩
    rw [← hs] at hm hpl
    clear hIn HC hcb hcn b3 b2 hh hcs htake hT hr
    obtain ⟨ys, ct⟩ := s
    simp only at hpl
    have hk1 : chunkLen n x ≤ 64 := by simp only [chunkLen]; omega
    have hk2 : 64 * chunkNo n x + chunkLen n x ≤ n := by simp only [chunkLen, chunkNo]; split <;> omega
    have HKEY := Lib.hid hm.key
    have HNON := Lib.hid hm.non
    have HSK := Lib.hid (sz23 hK)
    have HSN := Lib.hid (sz25 hN)
    have hcc : W.cell? ⟨w1.heap.size, 0, none⟩ = some (.int .u32 (U ct)) := by simpa using hm.cnt.at 0
    have HB := Lib.hid (block27 K N hK hN ct W hm.tab)
    obtain ⟨kk, hkk⟩ : ∃ kk, kk = chunkLen n x := ⟨_, rfl⟩
    obtain ⟨no, hno⟩ : ∃ no, no = chunkNo n x := ⟨_, rfl⟩
    rw [← hkk] at hk1
    rw [← hkk, ← hno] at hk2
    simp only [← hkk, ← hno]
    have HKK := Lib.hid hkk
    have HNO := Lib.hid hno
    clear hkk hno
    gi_wp2_with (first | ((with_reducible refine atIn_load 23 ?_); refine wpListIn_load_row rfl 23 _ rfl w.heap.size rfl 23 _ (0, 0) _ HKEY.out Tryd.underlying23 rfl HSK.out ?_) | ((with_reducible refine atIn_load 25 ?_); refine wpListIn_load_row rfl 25 _ rfl (w.heap.size + 1) rfl 25 _ (0, 0) _ HNON.out Tryd.underlying25 rfl HSN.out ?_) | (refine ⟨trivial, ?_⟩; gi_at_call 27; refine (CallsIn.inRound l (callsIn_wide.2 HB.out)).mono ?_; rintro e W2 ⟨v, rfl, hv2, hb2⟩))
    obtain ⟨g2, cap2, rfl, hc64, hcm2, hg2W, hg2l⟩ := hv2.some (by rw [length_blockS']; omega)
    have hzl := length_blockS' K N ct
    obtain ⟨zs, hzs⟩ : ∃ zs, zs = blockS K N ct := ⟨_, rfl⟩
    rw [hzl] at hv2 hc64
    simp only [hzl]
    rw [← hzs] at hv2 hzl
    have HZS := Lib.hid hzs
    clear hzs
    have hm2 : In15 w K N w1.heap.size g cap (ys, ct) W2 := hm.kept (only_of_below hb2 none) ws.heap.size (by omega) (by omega) (by omega) (by omega) (by omega) hsz2 (fun r e => by cases e)
    have hb2B : W.heap.size ≤ W2.heap.size := hb2.size
    have e1 : (kk : Int) ≤ (cap2 : Int) := by omega
    have e2 : (kk : Int) ≤ 70368744177664 := by omega
    have e3 : kk ≤ cap2 := by omega
    have e4 : (0 : Int) ≤ (kk : Int) := by omega
    clear HB HKEY HNON HSK HSN
    go_simp
    gi_wp2
    gi_loopw [28, 30, 31, 32, 10, 11, 33, 34, 35, 36, 37, 38, 39, 40] (fun i _ _ _ _ _ _ _ _ _ _ _ _ _ wr => ∃ k : Nat, k ≤ kk ∧ i = .int .i64 k ∧ In15 w K N w1.heap.size g cap (xorTo ys (64 * no) zs k, ct) wr ∧ W2.grownBy wr (some g))
      (fun i _ _ _ _ _ _ _ _ _ _ _ _ _ _ => kk - (intOf i).toNat)
    case atStart => exact ⟨0, Nat.zero_le _, rfl, hm2, World.grownBy.refl _ _⟩
    case round =>
      obtain ⟨k, hk, rfl, hIk, hgk⟩ := hrel
      have hkI : W2.heap.size ≤ wr.heap.size := hgk.size
      have hlk : (xorTo ys (64 * no) zs k).length = n := by rw [length_xorTo, hpl]
      have hzo : Own wr W.heap.size (.slice (some ⟨g2, 0, none⟩) zs.length cap2) zs := by
        rw [hzl]; exact hv2.kept hgk (.inr (by simp [Value.ownBlock]; omega))
      by_cases hlt : k < kk
      · have q1 := hzo.cell k (by omega)
        have hox := hIk.own
        have q2 := hox.cell (64 * no + k) (by show 64 * no + k < (xorTo ys (64 * no) zs k).length; omega)
        have q3 := hox.free (64 * no + k)
        simp only at q2
        have p1 : (k : Int) < (kk : Int) := by omega
        have p2 : (0 : Int) ≤ (k : Int) := by omega
        have p3 : (k : Int) + 1 ≤ 70368744177664 := by omega
        have hxor := B_xor ((xorTo ys (64 * no) zs k).getD (64 * no + k) 0#8) (zs.getD k 0#8)
        have HOX := Lib.hid hox
        have HZO := Lib.hid hzo
        clear hox hzo
        gi_wp2
        simp only [← List.getD_eq_getElem?_getD] at hxor ⊢
        rw [hxor]
        exact ⟨⟨k + 1, by omega, by simp, hIk.turn (by omega) (by omega) h2lt _ _, only_put hgk (.inl rfl) _⟩, by simp [intOf]; omega⟩
      · obtain rfl : k = kk := by omega
        have hcc3 : wr.cell? ⟨w1.heap.size, 0, none⟩ = some (.int .u32 (U ct)) := by simpa using hIk.cnt.at 0
        have hcf3 : wr.frozen? ⟨w1.heap.size, 0, none⟩ = false := hIk.cnt.free 0
        have hadd : (U ct + 1) % 4294967296 = U (ct + 1#32) := U_add ct 1#32
        gi_wp2
        have hgp : wr.grownBy (wr.setCell ⟨w1.heap.size, 0, none⟩ (.int .u32 (U (ct + 1#32)))) (some w1.heap.size) := only_put (World.grownBy.refl wr _) (.inl rfl) _
        have hszp : ws.heap.size ≤ (wr.setCell ⟨w1.heap.size, 0, none⟩ (.int .u32 (U (ct + 1#32)))).heap.size := Nat.le_trans (Nat.le_trans hsz2 hb2B) (Nat.le_trans hkI hgp.size)
        refine ⟨((KeepsFrom.of_grownBy (only_of_below hb2 none) (fun j e => by cases e)).trans (KeepsFrom.of_grownBy hgk (fun j e => by cases e; omega))).trans (KeepsFrom.of_grownBy hgp (fun j e => by cases e; omega)), ⟨?_, ?_⟩, ?_, hszp⟩
        · exact (hgp.block _ (by omega) (by simp)).trans ((hgk.block _ (by omega) (by simp; omega)).trans (hb2.block _ (by omega)))
        · exact (hgp.block _ (by omega) (by simp)).trans ((hgk.block _ (by omega) (by simp; omega)).trans (hb2.block _ (by omega)))
        · rw [roundsC_snoc, ← hs]
          simp only [roundC]
          rw [← HKK.out, ← HNO.out, ← HZS.out]
          exact hIk.count (by omega) (by omega) h2lt _

set_option maxRecDepth 100000 in
set_option maxHeartbeats 1000000 in
theorem Stream15_zero (K N : List (BitVec 8)) (A : Option Addr) (c : Nat) (w : World) :
    Calls Tryd.prog 15 #[.agg (K.map Y).toArray, .agg (N.map Y).toArray, .slice A 0 c] w fun e w' => ∃ v, e = .returned (.tuple #[v, .int .i64 0]) ∧ Own w' w.heap.size v [] ∧ Below w.heap.size w w' := by
  have b2 := boxB w K N
  have HC := Lib.hid (clone25 A 0 c [] ((w.alloc (.cells (K.map Y).toArray 23)).alloc (.cells (N.map Y).toArray 25)) (Rd.nil _ _) rfl (by omega))
  refine (callsIn_wide (n := 3)).1 ?_
  refine callsIn_of_wp_marks Tryd.func15 rfl trivial ?_ rfl
  simp only [Tryd.ntmps15, List.size_toArray, List.length_cons, List.length_nil, Nat.reduceAdd, Nat.reduceSub, Array.replicate_succ, Array.replicate_zero, List.push_toArray, List.append_toArray, List.nil_append, List.cons_append]
  gi_wp2_with (refine ⟨trivial, ?_⟩; gi_at_call 25; refine (callsIn_wide.2 HC.out).mono ?_; rintro e w1 ⟨v, rfl, hv, hb1⟩)
  obtain ⟨A1, c1, rfl, -⟩ := hv.form
  refine ⟨trivial, ?_⟩
  refine (callsIn_wide.2 (chunk26 _ _ _ _)).mono ?_
  rintro e w2 ⟨rfl, rfl⟩
  gi_wp2_with (fail)
  obtain ⟨ws, hws⟩ : ∃ ws, ws = (((w1.alloc (.cells #[.int .u32 1] 50)).alloc (.cells #[.slice A1 0 c1] 26)).alloc (.cells #[.int .i64 64] 3)) := ⟨_, rfl⟩
  rw [← hws]
  have b3 : Below w1.heap.size w1 ws := by rw [hws]; exact (((Below.refl _ w1).alloc (Nat.le_refl _) _).alloc (by simp) _).alloc (by simp; omega) _
  have hs3 : ws.heap.size = w1.heap.size + 3 := by rw [hws]; simp
  have hcb : ws.cell? ⟨w1.heap.size + 1, 0, none⟩ = some (.slice A1 0 c1) := by
    rw [hws]
    have := Blk.alloc (Blk.new (w1.alloc (.cells #[.int .u32 1] 50)) 26 [.slice A1 0 c1]) (.cells #[.int .i64 64] 3)
    simpa using this.at 0
  have hw1 : w.heap.size + 2 ≤ w1.heap.size := by have := hb1.size; simpa using this
  have hO : Own ws (w.heap.size + 2) (.slice A1 0 c1) [] := (hv.mono (base' := w.heap.size + 2) (by simp)).below b3
  have hBl : Below w.heap.size w ws := (b2.trans (hb1.mono (by simp; omega))).trans (b3.mono (by omega))
  have hlt := World.ownsRow.lt hO
  have hlt' : ∀ k, (Value.slice A1 0 c1).ownBlock = some k → k < w1.heap.size := World.ownsRow.lt hv |> fun h k hk => (h k hk).2
  clear hws
  refine wpIn_rangeFunc_ownG rfl (by omega) (gf := 34) (lb := #[.pointer (some ⟨w1.heap.size + 1, 0, none⟩), .pointer (some ⟨w1.heap.size + 2, 0, none⟩)]) rfl trivial (enters_of Tryd.func34 (by kernel_rfl) rfl)
    (chunk_stops_zero 2 (w1.heap.size + 1) (w1.heap.size + 2) 0 0 c1 A1 ws hcb) (fun h k => h.trans k)
    (fun W l o o' hl _ _ _ => ⟨World.putObj_heap_other (by omega), World.putObj_heap_other (by omega)⟩) (Below.refl _ _) (fun _ => rfl)
    (fun pre W => Own W (w.heap.size + 2) (.slice A1 0 c1) [] ∧ Below w.heap.size w W ∧ ws.heap.size ≤ W.heap.size) (fun _ _ _ => False)
    (fun s X Z row h hg' hr => ⟨h.1.kept hg' (by
        cases hq : (Value.slice A1 0 c1).ownBlock with
        | none => exact .inl rfl
        | some k => refine .inr (fun e => ?_); have := (hr k e.symm).1; have := hlt' k hq; omega), h.2.1.grown hg' (by have := h.2.2; omega) (fun k e => by have := (hr k e).1; omega), Nat.le_trans h.2.2 hg'.size⟩)
    (fun _ _ _ _ _ hs _ _ => hs) ⟨hO, hBl, Nat.le_refl _⟩
    (fun x => { tmps := #[.agg (K.map Y).toArray, .agg (N.map Y).toArray, .slice A 0 c, .pointer (some ⟨w.heap.size, 0, none⟩), .pointer (some ⟨w.heap.size + 1, 0, none⟩), undef, .slice A1 0 c1, .int .i64 0,
        .pointer (some ⟨w1.heap.size, 0, none⟩), .slice (some ⟨0, 64 * chunkNo 0 x, none⟩) (chunkLen 0 x) (chunkLen 0 x), undef, undef, .slice A 0 c, .int .i64 0, .bool false, .slice A 0 c, .slice A1 0 c1, .slice A1 0 c1,
        .func (.func 34) #[] #[.pointer (some ⟨w1.heap.size + 1, 0, none⟩), .pointer (some ⟨w1.heap.size + 1 + 1, 0, none⟩)],
        .slice (some ⟨0, 64 * chunkNo 0 x, none⟩) (chunkLen 0 x) (chunkLen 0 x), undef, undef, undef, undef, undef, undef, undef, undef, undef, undef, undef, undef, undef, undef, undef, undef, undef, undef, undef, undef, undef, undef, undef, undef], defers := [] }) ?assign ?body ?done ?stop
  case assign =>
    intro l x W K' hK'
    simp only [encC]
    gi_wp2
    exact hK'
  case stop =>
    intro D c' pre W _ _ h _
    exact h.elim
  case body =>
    intro l pre x W _ h
    exact absurd h (Nat.not_lt_zero _)
  case done =>
    rintro D ys W hD rfl ⟨hm, ho, hsz2⟩ hDd
    gi_wp2
    refine ⟨by simp, .inl ⟨_, _, rfl, run_takeDeferred hDd, ?_⟩⟩
    have hb5 : Below ws.heap.size W (W.putObj D (.deferred none)) := belowK_b (Nat.le_refl _) W D _ _ hD hDd rfl rfl
    refine ⟨_, results_tmp2 rfl _ _ _, _, rfl, ?_, ho.trans (hb5.mono (by omega))⟩
    have h5 : Own (W.putObj D (.deferred none)) (w.heap.size + 2) _ _ := ownsRow_putObj hm _ hDd rfl
    exact h5.mono (by omega)

theorem Stream15 (K N : List (BitVec 8)) (hK : K.length = 32) (hN : N.length = 12) (A : Option Addr) (n c : Nat) (xs : List (BitVec 8)) (w : World) (hT : Tab w 2 constsS) (hr : Rd w A xs) (hn : xs.length = n) (hsz : n ≤ 65536) :
    Calls Tryd.prog 15 #[.agg (K.map Y).toArray, .agg (N.map Y).toArray, .slice A n c] w fun e w' => ∃ v, e = .returned (.tuple #[v, .int .i64 0]) ∧ Own w' w.heap.size v (streamS K N xs) ∧ Below w.heap.size w w' := by
  rcases Nat.eq_zero_or_pos n with rfl | h0
  · have : xs = [] := List.eq_nil_of_length_eq_zero hn
    subst this
    exact Stream15_zero K N A c w
  · exact Stream15_pos K N hK hN A n c xs w hT hr hn h0 hsz

set_option maxHeartbeats 1000000 in
theorem Stream15_no (K N : List (BitVec 8)) (A : Option Addr) (n c : Nat) (w : World) (hsz : 65536 < n) (hsz2 : n ≤ 70368744177664) :
    Calls Tryd.prog 15 #[.agg (K.map Y).toArray, .agg (N.map Y).toArray, .slice A n c] w fun e w' => e = .returned (.tuple #[.slice none 0 0, .int .i64 60]) ∧ Below w.heap.size w w' := by
  have b2 := boxB w K N
  have n1 : (65536 : Int) < (n : Int) := by omega
  have n3 : 65536 < n := hsz
  go_enter Tryd.func15, Tryd.ntmps15
  go_wp2
  go_ret2
  exact ⟨rfl, b2⟩
end Go.Proofs.YtbmjjmianhjfiaaDoor
