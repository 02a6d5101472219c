/-
  Configurations: brought within, and whether one is.
-/
import Derived.Test.YtdncenepmkbolaaSchedF
import Derived.Test.YtdncenepmkbolaaSa
namespace Go.Proofs.Ytdncenepmkbolaa
open Go Go.Abs Go.Abs.S Go.Abs.W
set_option maxRecDepth 10000
set_option maxHeartbeats 2000000
theorem has_onto {h0 h h' : Go.Abs.H} {L : List Ch} (k : Has h0 L [] h) : ∀ {L' : List Ch} {A : List Nat}, Has h L' A h' → (∀ x ∈ A, h.n ≤ x) → Has h0 (L' ++ L) A h'
  | [], _, k', ha => Has.keep (T := []) ⟨k'.1, fun b hb _ => k'.2 b hb⟩ (by simp) (k.fresh fun x hx => .inr (ha x hx)) (by simp)
  | _ :: _, _, ⟨S, k1, k2, k3, k4⟩, ha => ⟨S, k1, k2, fun x hx => ⟨Nat.le_trans k.ext.1 (k3 x hx).1, (k3 x hx).2⟩, has_onto k k4 fun x hx => by
      rcases List.mem_append.1 hx with hx | hx
      · exact (k3 x hx).1
      · exact ha x hx⟩
/-- what a call has beside the heap that it began with comes to what was there -/
theorem hs_onto {h0 h h' : Go.Abs.H} {L L' : List Ch} (k : Hs h0 L h) (k' : Hs h L' h') : Hs h0 (L' ++ L) h' := has_onto k k' (by simp)
theorem st_one {b i : Nat} (h : Go.Abs.H) {r : List AV} {x : AV} (hi : i < r.length) : storeB h b i [x] (some (.rows r.length [r] false none none)) = some (h.put b (.rows r.length [r.set i x] false none none)) := by
  have e : atN (over [x]) i r = some (r.set i x) := by
    rw [atN_put (by simp; omega), List.set_eq_take_append_cons_drop, if_pos hi]; simp
  rw [storeB_rows, storeG_one _ _ _ _ hi, e]
theorem st_all {b : Nat} (h : Go.Abs.H) {r z : List AV} (hr : r.length = z.length) (hz : 0 < z.length) : storeB h b 0 r (some (.rows z.length [z] false none none)) = some (h.put b (.rows z.length [r] false none none)) := by
  rw [storeB_rows, storeG_one _ _ _ _ hz, atN_zero, over_full hr]
structure C11 where
  nodes : Int
  chain : Int
  cli : Int
  queue : Int
  win : Int
  reads : Int
  link : Int
  pat : Int
  tmo : Int
  bud : Int
  refl : Int
  deriving DecidableEq
def C11.cs (c : C11) (v : AV) : List AV := [.int .i64 c.nodes, .int .i64 c.chain, .int .i64 c.cli, v, .int .i64 c.queue, .int .i64 c.win, .int .i64 c.reads, .int .i64 c.link, .int .i64 c.pat, .int .i64 c.tmo, .int .i64 c.bud, .int .i64 c.refl]
def C11.fit (c : C11) : C11 := ⟨max 1 (min c.nodes 6), max 1 (min c.chain (max 1 (min c.nodes 6))), max 1 (min c.cli 6), max 1 (min c.queue 16), max 1 (min c.win 16), max 1 (min c.reads 16), max 4 (min c.link 64), max 4 (min c.pat 64), max 4 (min c.tmo 64), max 0 (min c.bud 16), max 1 (min c.refl 1099511627776)⟩
def fitN (q : Int) : Int := max 96 (min q 65536)
def fitQ (qs : List Int) : List Int := if qs = [] then [96] else (qs.take 4).map fitN
section
variable {h h0 : Go.Abs.H} {n : Nat} {v : AV} {qs : List Int} {L : List Ch}
theorem near_ok (hn : 1 ≤ n) (x lo hi : Int) (h : Go.Abs.H) : callX env sums n 79 [.int .i64 x, .int .i64 lo, .int .i64 hi] h = some (.int .i64 (max lo (min x hi)), h) := by
  obtain ⟨n, rfl⟩ : ∃ k, n = k + 1 := ⟨n - 1, by omega⟩
  refine spec_eq (spec_trN [.int .i64 x, .int .i64 lo, .int .i64 hi] rfl ft79 (by kernel_rfl) (tn79 ..) ?_)
  exact ⟨rfl, rfl⟩
theorem clamp_ok (hn : 1 ≤ n) (x lo hi : Int) (h : Go.Abs.H) : callX env sums n 98 [.int .i64 x, .int .i64 lo, .int .i64 hi] h = some (.int .i64 (max lo (min x hi)), h) := by
  obtain ⟨n, rfl⟩ : ∃ k, n = k + 1 := ⟨n - 1, by omega⟩
  refine spec_eq (spec_trN [.int .i64 x, .int .i64 lo, .int .i64 hi] rfl ft98 (by kernel_rfl) (tn98 ..) ?_)
  exact ⟨rfl, rfl⟩
theorem ref_fit (hn : 8 ≤ n) (c : C11) (hq : SlR h 1 v (qrows qs)) (hb : ∀ b, blkOf v = some b → b < h.n) :
    ∃ v' h', callX env sums n 49 [.agg (c.cs v)] h = some (.agg (c.fit.cs v'), h') ∧ Hs h [LsC 1 v' (qrows (fitQ qs))] h' := by
  obtain ⟨n, rfl⟩ : ∃ k, n = k + 1 := ⟨n - 1, by omega⟩
  suffices hh : W.Spec env sums (n + 1) 49 [.agg (c.cs v)] h (fun a h' => ∃ v', a = .agg (c.fit.cs v') ∧ Hs h [LsC 1 v' (qrows (fitQ qs))] h') by
    obtain ⟨a, h', e, v', rfl, q⟩ := hh; exact ⟨v', h', e, q⟩
  have k1 := (((Hs.start h).new (.rows 12 [c.cs v] false none none)).new (.rows 12 [[.int .i64 0, .int .i64 0, .int .i64 0, .nils, .int .i64 0, .int .i64 0, .int .i64 0, .int .i64 0, .int .i64 0, .int .i64 0, .int .i64 0, .int .i64 0]] false none none)).skip (n := 35) (i := 33) (by omega)
  generalize hZ : (Blk.rows 12 [[.int .i64 0, .int .i64 0, .int .i64 0, .nils, .int .i64 0, .int .i64 0, .int .i64 0, .int .i64 0, .int .i64 0, .int .i64 0, .int .i64 0, .int .i64 0]] false none none) = Z at k1
  refine spec_trN [.agg (c.cs v)] rfl ft49 (by kernel_rfl) (tn49 ..) ?_
  rw [hZ]
  generalize hX : Blk.rows 12 [c.cs v] false none none = X at k1 ⊢
  refine ⟨rfl, ?_⟩
  rw [show ∀ K, (stdN env (callX env sums n) n).new h X K = K h.n (h.new X) from fun _ => rfl]
  rw [show ∀ K, (stdN env (callX env sums n) n).new (h.new X) Z K = K (h.new X).n ((h.new X).new Z) from fun _ => rfl]
  have gX : ((h.new X).new Z).get h.n = some X := by rw [get_new_ne _ _ _ (by rw [hn_new]; omega), get_new_same]
  generalize hHH : (h.new X).new Z = HH at k1 gX ⊢
  have gi : ∀ i, i < 12 → cellG i (HH.get h.n) = nth (c.cs v) i := fun i hi => by rw [gX, ← hX, cellG_one _ _ _ _ _ _ hi (by omega)]
  have g0 : cellG 0 (HH.get h.n) = some (.int .i64 c.nodes) := gi 0 (by omega)
  have g1 : cellG 1 (HH.get h.n) = some (.int .i64 c.chain) := gi 1 (by omega)
  have g2 : cellG 2 (HH.get h.n) = some (.int .i64 c.cli) := gi 2 (by omega)
  have g3 : cellG 3 (HH.get h.n) = some v := gi 3 (by omega)
  have g4 : cellG 4 (HH.get h.n) = some (.int .i64 c.queue) := gi 4 (by omega)
  have g5 : cellG 5 (HH.get h.n) = some (.int .i64 c.win) := gi 5 (by omega)
  have g6 : cellG 6 (HH.get h.n) = some (.int .i64 c.reads) := gi 6 (by omega)
  have g7 : cellG 7 (HH.get h.n) = some (.int .i64 c.link) := gi 7 (by omega)
  have g8 : cellG 8 (HH.get h.n) = some (.int .i64 c.pat) := gi 8 (by omega)
  have g9 : cellG 9 (HH.get h.n) = some (.int .i64 c.tmo) := gi 9 (by omega)
  have g10 : cellG 10 (HH.get h.n) = some (.int .i64 c.bud) := gi 10 (by omega)
  have g11 : cellG 11 (HH.get h.n) = some (.int .i64 c.refl) := gi 11 (by omega)
  simp (disch := (first | omega | assumption | rfl | (simp only [hn_new, hn_put, skip_n]; omega))) only [go_sem, g0, g1, g2, g4, g5, g6, g7, g8, g9, g10, g11, near_ok (n := n) (by omega)]
  have stZ : ∀ (H : Go.Abs.H) (b : Nat) (r : List AV), r.length = 12 → storeB H b 0 r (some Z) = some (H.put b (.rows 12 [r] false none none)) := fun H b r hr => by
    rw [← hZ, storeB_rows, storeG_one _ _ _ _ (by omega), atN_zero, over_full (by rw [hr]; rfl)]
  have st0 := fun H b => stZ H b (c.fit.cs .nils) rfl
  have k2 := ((k1.fput Z).put (.rows 12 [c.fit.cs .nils] false none none)).nil 1
  simp only [C11.cs, C11.fit] at st0
  have hb2 : (h.new X).n = h.n + 1 := rfl
  rw [hb2] at k2
  generalize hb8 : HH.n + 33 = b8 at k2 ⊢
  simp (disch := (first | omega | assumption | rfl | (simp only [hn_new, hn_put, skip_n]; omega))) only [go_sem, st0]
  have fin : ∀ w (H : Go.Abs.H), Hs h [LsC 1 w (qrows (fitQ qs)), Cell b8 (.rows 12 [c.fit.cs w] false none none), Cell (h.n + 1) Z, Cell h.n X] H → loadG 0 12 (H.get b8) = some (c.fit.cs w) ∧ (∃ H', storeB H (h.n + 1) 0 (c.fit.cs w) (H.get (h.n + 1)) = some H' ∧ loadG 0 12 (H'.get (h.n + 1)) = some (c.fit.cs w) ∧ Hs h [LsC 1 w (qrows (fitQ qs))] H') := by
    intro w H k
    refine ⟨by rw [k.at2.get, loadG_zero _ _ _ _ _ (by omega)]; rfl, H.put (h.n + 1) (.rows 12 [c.fit.cs w] false none none), ?_, ?_, ?_⟩
    · rw [k.at3.get]; exact stZ H _ (c.fit.cs w) rfl
    · rw [get_put_same, loadG_zero _ _ _ _ _ (by omega)]; rfl
    · exact (k.at3.put _).drop.at2.drop.at2.drop
  refine ⟨fun l m H => ∃ (i : Nat) (w : AV), l = [.int .i64 i] ∧ m = 4 - i ∧ i ≤ qs.length ∧ i ≤ 4 ∧ Hs h [LsC 1 w (qrows ((qs.take i).map fitN)), Cell b8 (.rows 12 [c.fit.cs w] false none none), Cell (h.n + 1) Z, Cell h.n X] H, ⟨4, by omega, 0, .nils, rfl, rfl, by omega, by omega, k2⟩, ?_⟩
  intro n54 m55 h56 ⟨i, w, e, hm, hi, hi4, k56⟩
  cases e; subst hm
  have hqh : SlR h56 1 v (qrows qs) := hq.keep fun b hb' => k56.ext.2 b (hb b hb')
  have hvl : lenS v = some qs.length := by have := hqh.len; simpa [qrows] using this
  have y3 : cellG 3 (h56.get h.n) = some v := by rw [k56.at4.get, ← hX, cellG_one _ _ _ _ _ _ (by omega) (by omega)]; rfl
  have y8 : cellG 3 (h56.get b8) = some w := by rw [k56.at2.get, cellG_one _ _ _ _ _ _ (by omega) (by omega)]; rfl
  have hwl : lenS w = some ((qs.take i).map fitN).length := by have := k56.sl.len; simpa [qrows] using this
  by_cases hgo : (i : Int) < qs.length ∧ (i : Int) < 4
  · obtain ⟨q, hqi⟩ : ∃ q, qs[i]? = some q := ⟨qs[i], List.getElem?_eq_getElem (by omega)⟩
    obtain ⟨bq, oq, p1, _, p3, _⟩ := hqh.idx (i := i) (r := [.int .i64 q]) (by unfold qrows; rw [List.getElem?_map, hqi]; rfl)
    have pq : cellG oq (h56.get bq) = some (.int .i64 q) := by have := p3 0 (by omega); rwa [Nat.add_zero] at this
    have kn := (k56.skip (n := 12) (i := 8) (by omega)).fput (.rows 1 [[.int .i64 (max 96 (min q 65536))]] false none none)
    obtain ⟨w', h71, q1, q2, q3⟩ := kn.at2.app (by omega) 8 (rows_one kn.get (by omega) 1) (by simp [qrows]; omega) (by simp [qrows]; omega)
    have k71 := q2.at2.drop
    have s3 : storeB h71 b8 3 [w'] (h71.get b8) = some (h71.put b8 (.rows 12 [c.fit.cs w'] false none none)) := by
      rw [k71.at2.get]; exact st_one (i := 3) (x := w') h71 (r := c.fit.cs w) (by show 3 < 12; omega)
    have k72 := (k71.at2.put (.rows 12 [c.fit.cs w'] false none none)).at2
    have y8' := congrArg (cellG 3) kn.at3.get
    rw [cellG_one _ _ _ _ _ _ (by omega) (by omega), show nth (c.fit.cs w) 3 = some w from rfl] at y8'
    simp (disch := (first | omega | assumption | rfl | (simp only [hn_new, hn_put, skip_n]; omega))) only [go_sem, y3, hvl, y8, p1, pq, near_ok (n := n) (by omega), q1, q2.one, s3, k56.samev, y8']
    refine ⟨4 - (i + 1), by omega, i + 1, w', by simp, rfl, by omega, by omega, ?_⟩
    rw [List.take_add_one, hqi]
    simpa [qrows, fitN] using k72
  have hmeet : meetN
      (fun I73 => on1 (cellOf h56 b8 3) fun a74 => on1 (lenS a74) fun k75 => W.ask (decide ((k75 : Int) = 0)) (on1 (cellOf h56 b8 3) fun a76 => on2 (appendOp (h56.new (Blk.rows 1 [[AV.int .i64 96]] false none none)) 1 8 a76 (AV.sl h56.n 0 1 1)) fun v79 h80 => both (v79.one = true) (on1 (h80.store b8 3 [v79]) fun h81 => I73 [] h81)) (I73 [] h56))
      (fun I82 => ∀ h83, I82 [] h83 → on1 (h83.load b8 0 12) fun cs84 => both (lenN cs84 = 12) (on1 (h83.store (h.n + 1) 0 cs84) fun h85 => on1 (h85.load (h.n + 1) 0 12) fun cs86 => ∃ v', AV.agg cs86 = .agg (c.fit.cs v') ∧ Hs h [LsC 1 v' (qrows (fitQ qs))] h85)) ⟨⟩ := by
    refine ⟨fun l H => ∃ w, Hs h [LsC 1 w (qrows (fitQ qs)), Cell b8 (.rows 12 [c.fit.cs w] false none none), Cell (h.n + 1) Z, Cell h.n X] H, ?_, ?_⟩
    · have hend : i = qs.length ∨ i = 4 := by omega
      have htk : qs.take i = qs.take 4 := by
        rcases hend with rfl | rfl
        · rw [List.take_length, List.take_of_length_le (by omega)]
        · rfl
      by_cases hq0 : qs = []
      · have hw0 : ((qs.take i).map fitN) = [] := by rw [hq0]; simp
        have hl0 : lenS w = some 0 := by rw [hwl, hw0]; rfl
        have kn := k56.new (.rows 1 [[.int .i64 96]] false none none)
        obtain ⟨w', h71, q1, q2, q3⟩ := kn.at2.app (by omega) 8 (rows_one kn.get (by omega) 1) (by simp [qrows]; omega) (by simp [qrows]; omega)
        have k71 := q2.at2.drop
        have s3 : storeB h71 b8 3 [w'] (h71.get b8) = some (h71.put b8 (.rows 12 [c.fit.cs w'] false none none)) := by
          rw [k71.at2.get]; exact st_one (i := 3) (x := w') h71 (r := c.fit.cs w) (by show 3 < 12; omega)
        have k72 := (k71.at2.put (.rows 12 [c.fit.cs w'] false none none)).at2
        simp (disch := (first | omega | assumption | rfl | (simp only [hn_new, hn_put, skip_n]; omega))) only [go_sem, y8, hl0, q1, q2.one, s3]
        refine ⟨w', ?_⟩
        rw [hw0] at k72
        have e : fitQ qs = [96] := by unfold fitQ; rw [if_pos hq0]
        rw [e]
        exact k72
      · have hpos : 0 < qs.length := List.length_pos_iff.2 hq0
        have hne : ¬ (((qs.take i).map fitN).length : Int) = 0 := by rw [List.length_map, List.length_take]; omega
        simp (disch := (first | omega | assumption | rfl | (simp only [hn_new, hn_put, skip_n]; omega))) only [go_sem, y8, hwl, hne]
        refine ⟨w, ?_⟩
        have e : fitQ qs = (qs.take i).map fitN := by unfold fitQ; rw [if_neg hq0, htk]
        rw [e]; exact k56
    · intro h83 ⟨w, k83⟩
      obtain ⟨f1, H', f2, f3, f4⟩ := fin w h83 k83
      simp (disch := (first | omega | assumption | rfl | (simp only [hn_new, hn_put, skip_n]; omega))) only [go_sem, f1, show (c.fit.cs w).length = 12 from rfl, f2, f3]
      exact ⟨w, rfl, f4⟩
  by_cases hlq : (i : Int) < qs.length
  · simp (disch := (first | omega | assumption | rfl | (simp only [hn_new, hn_put, skip_n]; omega))) only [go_sem, y3, hvl]
    exact hmeet
  · simp (disch := (first | omega | assumption | rfl | (simp only [hn_new, hn_put, skip_n]; omega))) only [go_sem, y3, hvl]
    exact hmeet
end
end Go.Proofs.Ytdncenepmkbolaa
