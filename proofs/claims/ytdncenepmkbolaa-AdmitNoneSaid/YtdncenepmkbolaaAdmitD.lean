/-
  Configurations: the program's own Fit, and Check.
-/
import Derived.Test.YtdncenepmkbolaaAdmitC
namespace Go.Proofs.Ytdncenepmkbolaa
open Go Go.Abs Go.Abs.S Go.Abs.W
set_option maxRecDepth 10000
set_option maxHeartbeats 2000000
section
variable {h h0 : Go.Abs.H} {n i : Nat} {v : AV} {xs qs : List Int} {L : List Ch} {x : Int}
/-- the first ones of a list of numbers, by an index -/
def CutOk (h : Go.Abs.H) (v : AV) (qs : List Int) : Prop := ∃ w, sliceOp env.tt 63 v none (some (min (qs.length : Int) 4)) none = some w ∧ SlR h 1 w (qrows (qs.take 4)) ∧ ∀ b, blkOf w = some b → b < h.n
theorem set_fit (hn : 20 ≤ n) (c : C11) (hq : SlR h 1 v (qrows qs)) (hcut : CutOk h v qs) :
    ∃ v' h', callX env sums n 93 [.agg (c.cs v)] h = some (.agg (c.fit.cs v'), h') ∧ Hs h [FlC v' (fitQ qs)] h' := by
  obtain ⟨n, rfl⟩ : ∃ k, n = k + 1 := ⟨n - 1, by omega⟩
  suffices hh : W.Spec env sums (n + 1) 93 [.agg (c.cs v)] h (fun a h' => ∃ v', a = .agg (c.fit.cs v') ∧ Hs h [FlC v' (fitQ qs)] h') by
    obtain ⟨a, h', e, v', rfl, q⟩ := hh; exact ⟨v', h', e, q⟩
  obtain ⟨w, hw1, hw2, hw3⟩ := hcut
  have hvl := hq.len
  rw [qrows_len] at hvl
  generalize hZ : (Blk.rows 12 [[.int .i64 0, .int .i64 0, .int .i64 0, .nils, .int .i64 0, .int .i64 0, .int .i64 0, .int .i64 0, .int .i64 0, .int .i64 0, .int .i64 0, .int .i64 0]] false none none) = Z
  have k1 := ((Hs.start h).new (.rows 12 [c.cs v] false none none)).new Z
  refine spec_trN [.agg (c.cs v)] rfl ft93 (by kernel_rfl) (tn93 ..) ?_
  rw [hZ]
  generalize hX : Blk.rows 12 [c.cs v] false none none = X at k1 ⊢
  refine ⟨rfl, ?_⟩
  rw [show ∀ K, (stdN env (callX env sums n) n).new h X K = K h.n (h.new X) from fun _ => rfl]
  rw [show ∀ K, (stdN env (callX env sums n) n).new (h.new X) Z K = K (h.new X).n ((h.new X).new Z) from fun _ => rfl]
  have hb2 : (h.new X).n = h.n + 1 := rfl
  rw [hb2] at k1 ⊢
  generalize hHH : (h.new X).new Z = HH at k1 ⊢
  rw [← hX] at k1
  generalize h.n + 1 = b2 at k1 ⊢
  generalize hb0 : h.n = b0 at k1 ⊢
  simp (disch := (first | omega | assumption | rfl | (simp only [hn_new, hn_put, skip_n]; omega))) only [go_sem]
  refine on2_ex (fit_box (by omega) k1.at2 rfl (by omega) (x := c.nodes) rfl) fun h5 k5 => ?_
  have g0 : cellG 0 (h5.get b0) = some (.int .i64 (max 1 (min c.nodes 6))) := by rw [k5.get, cellG_one _ _ _ _ _ _ (by omega) (by omega)]; rfl
  simp (disch := (first | omega | assumption | rfl | (simp only [hn_new, hn_put, skip_n]; omega))) only [go_sem, g0]
  refine on2_ex (fit_box (by omega) k5 rfl (by omega) (x := c.chain) rfl) fun h8 k8 => ?_
  refine on2_ex (fit_box (by omega) k8 rfl (by omega) (x := c.cli) rfl) fun h10 k10 => ?_
  obtain ⟨c1, hc1⟩ : ∃ c1 : C11, c1 = { c with nodes := max 1 (min c.nodes 6), chain := max 1 (min c.chain (max 1 (min c.nodes 6))), cli := max 1 (min c.cli 6) } := ⟨_, rfl⟩
  have k10 : Hs h [Cell b0 (.rows 12 [c1.cs v] false none none), Cell b2 Z] h10 := by rw [hc1]; exact k10
  have g3 : cellG 3 (h10.get b0) = some v := by rw [k10.get, cellG_one _ _ _ _ _ _ (by omega) (by omega)]; rfl
  simp (disch := (first | omega | assumption | rfl | (simp only [hn_new, hn_put, skip_n]; omega))) only [go_sem, g3, hvl, hw1]
  refine on2_ex2 (iclone_ok (by omega) k10 (hw2.keep fun b hb => k10.ext.2 b (hw3 b hb)) (fun b hb => Nat.lt_of_lt_of_le (hw3 b hb) k10.ext.1) (by simp; omega)) fun v' h16 k16 => ?_
  have s3 : storeB h16 b0 3 [v'] (h16.get b0) = some (h16.put b0 (.rows 12 [c1.cs v'] false none none)) := by
    rw [k16.at2.get]; exact st_one (i := 3) (x := v') h16 (r := c1.cs v) (by show 3 < 12; omega)
  have k17 := fl_of (k16.at2.put (.rows 12 [c1.cs v'] false none none)).at2
  simp (disch := (first | omega | assumption | rfl | (simp only [hn_new, hn_put, skip_n]; omega))) only [go_sem, k16.one, s3]
  have hn17 : (h16.put b0 (.rows 12 [c1.cs v'] false none none)).n = h16.n := rfl
  generalize h16.put b0 (.rows 12 [c1.cs v'] false none none) = h17 at k17 hn17 ⊢
  generalize h16.n = m16 at hn17 ⊢
  subst hn17
  have g17 : cellG 3 (h17.get b0) = some v' := by rw [k17.at2.get, cellG_one _ _ _ _ _ _ (by omega) (by omega)]; rfl
  have l17 : lenS v' = some (qs.take 4).length := by have := (fl_sl k17).len; rwa [qrows_len] at this
  refine ⟨fun l H => ∃ w, Hs h [FlC w (if qs = [] then [96] else qs.take 4), Cell b0 (.rows 12 [c1.cs w] false none none), Cell b2 Z] H, ?_, ?_⟩
  · have hlt17 := k17.at2.lt
    have hne17 : b0 ≠ h17.n := by omega
    by_cases hq0 : qs = []
    · have l0 : lenS v' = some 0 := by rw [l17, hq0]; rfl
      have kn := fl_lit (xs := [96]) ((k17.drop).new (.rows 1 [[.int .i64 96]] false none none))
      have s4 : storeB (h17.new (.rows 1 [[.int .i64 96]] false none none)) b0 3 [.sl h17.n 0 1 1] ((h17.new (.rows 1 [[.int .i64 96]] false none none)).get b0) = some ((h17.new (.rows 1 [[.int .i64 96]] false none none)).put b0 (.rows 12 [c1.cs (.sl h17.n 0 1 1)] false none none)) := by
        rw [kn.at2.get]; exact st_one (i := 3) (x := .sl h17.n 0 1 1) _ (r := c1.cs v') (by show 3 < 12; omega)
      rw [get_new_ne _ _ _ (by have := k17.at2.lt; omega)] at s4
      have k23 := (kn.at2.put (.rows 12 [c1.cs (.sl h17.n 0 1 1)] false none none)).at2
      simp (disch := (first | omega | assumption | rfl | (simp only [hn_new, hn_put, skip_n]; omega))) only [go_sem, g17, l0, s4, show AV.one (.sl h17.n 0 1 1) = true from rfl]
      refine ⟨.sl h17.n 0 1 1, ?_⟩
      rw [if_pos hq0]
      exact k23
    · have hne : ¬ ((qs.take 4).length : Int) = 0 := by
        have := List.length_pos_iff.2 hq0
        rw [List.length_take]; omega
      simp (disch := (first | omega | assumption | rfl | (simp only [hn_new, hn_put, skip_n]; omega))) only [go_sem, g17, l17, hne]
      refine ⟨v', ?_⟩
      rw [if_neg hq0]
      exact k17
  intro h25 ⟨w, k25⟩
  obtain ⟨ys, hys⟩ : ∃ ys, (if qs = [] then [96] else qs.take 4) = ys := ⟨_, rfl⟩
  rw [hys] at k25
  have hyl : ys.length ≤ 4 := by rw [← hys]; split <;> simp; omega
  have hyf : ys.map fitN = fitQ qs := by
    rw [← hys]; unfold fitQ
    split
    · rfl
    · rfl
  have g25 : cellG 3 (h25.get b0) = some w := by rw [k25.at2.get, cellG_one _ _ _ _ _ _ (by omega) (by omega)]; rfl
  have l25 : lenS w = some ys.length := by have := (fl_sl k25).len; rwa [qrows_len] at this
  simp (disch := (first | omega | assumption | rfl | (simp only [hn_new, hn_put, skip_n]; omega))) only [go_sem, g25, l25]
  refine ⟨fun l m H => ∃ i : Nat, l = [.int .i64 i] ∧ m = ys.length - i ∧ i ≤ ys.length ∧ Hs h [FlC w ((ys.take i).map fitN ++ ys.drop i), Cell b0 (.rows 12 [c1.cs w] false none none), Cell b2 Z] H, ⟨ys.length, by omega, 0, rfl, by omega, by omega, by simpa using k25⟩, ?_⟩
  intro n30 m31 h32 ⟨i, e, hm, hi, k32⟩
  cases e; subst hm
  by_cases hlt : (i : Int) < ys.length
  · obtain ⟨y, hy⟩ : ∃ y, ys[i]? = some y := ⟨ys[i], List.getElem?_eq_getElem (by omega)⟩
    have g32 : cellG 3 (h32.get b0) = some w := by rw [k32.at2.get, cellG_one _ _ _ _ _ _ (by omega) (by omega)]; rfl
    have hyi : ((ys.take i).map fitN ++ ys.drop i)[i]? = some y := by
      rw [List.getElem?_append_right (by simp; omega), List.length_map, List.length_take, Nat.min_eq_left hi, Nat.sub_self, List.getElem?_drop]; simpa using hy
    obtain ⟨b, o, h37, f1, f2, f3⟩ := fit_el (n := n) (lo := 96) (hi := 65536) (by omega) k32 hyi
    simp (disch := (first | omega | assumption | rfl | (simp only [hn_new, hn_put, skip_n]; omega))) only [go_sem, g32, f1, f2]
    refine ⟨ys.length - (i + 1), by omega, i + 1, by simp, rfl, by omega, ?_⟩
    have e : (ys.take (i + 1)).map fitN ++ ys.drop (i + 1) = ((ys.take i).map fitN ++ ys.drop i).set i (max 96 (min y 65536)) := by
      have hd : ys.drop i = y :: ys.drop (i + 1) := by
        rw [List.drop_eq_getElem_cons (by omega)]; congr 1
        rw [List.getElem?_eq_getElem (by omega)] at hy; exact Option.some.inj hy
      rw [List.take_add_one, hy, hd, List.set_append_right _ _ (by simp; omega)]
      simp [Nat.min_eq_left hi, fitN]
    rw [e]; exact f3
  have hie : i = ys.length := by omega
  subst hie
  rw [List.take_length, List.drop_length, List.append_nil, hyf] at k32
  have k32 := k32.at2
  simp (disch := (first | omega | assumption | rfl | (simp only [hn_new, hn_put, skip_n]; omega))) only [go_sem]
  refine on2_ex (fit_box (by omega) k32 rfl (by omega) (x := c.queue) (by rw [hc1]; rfl)) fun h39 k39 => ?_
  refine on2_ex (fit_box (by omega) k39 rfl (by omega) (x := c.win) (by rw [hc1]; rfl)) fun h41 k41 => ?_
  refine on2_ex (fit_box (by omega) k41 rfl (by omega) (x := c.reads) (by rw [hc1]; rfl)) fun h43 k43 => ?_
  refine on2_ex (fit_box (by omega) k43 rfl (by omega) (x := c.link) (by rw [hc1]; rfl)) fun h45 k45 => ?_
  refine on2_ex (fit_box (by omega) k45 rfl (by omega) (x := c.pat) (by rw [hc1]; rfl)) fun h47 k47 => ?_
  refine on2_ex (fit_box (by omega) k47 rfl (by omega) (x := c.tmo) (by rw [hc1]; rfl)) fun h49 k49 => ?_
  refine on2_ex (fit_box (by omega) k49 rfl (by omega) (x := c.bud) (by rw [hc1]; rfl)) fun h51 k51 => ?_
  refine on2_ex (fit_box (by omega) k51 rfl (by omega) (x := c.refl) (by rw [hc1]; rfl)) fun h53 k53 => ?_
  have k53 : Hs h [Cell b0 (.rows 12 [c.fit.cs w] false none none), FlC w (fitQ qs), Cell b2 Z] h53 := by rw [hc1] at k53; exact k53
  have l0 : loadG 0 12 (h53.get b0) = some (c.fit.cs w) := by rw [k53.get, loadG_zero _ _ _ _ _ (by omega)]; rfl
  have s5 : storeB h53 b2 0 (c.fit.cs w) (h53.get b2) = some (h53.put b2 (.rows 12 [c.fit.cs w] false none none)) := by
    rw [k53.at3.get, ← hZ, storeB_rows, storeG_one _ _ _ _ (by omega), atN_zero, over_full (by rfl)]
  have l5 : loadG 0 12 ((h53.put b2 (.rows 12 [c.fit.cs w] false none none)).get b2) = some (c.fit.cs w) := by rw [get_put_same, loadG_zero _ _ _ _ _ (by omega)]; rfl
  simp (disch := (first | omega | assumption | rfl | (simp only [hn_new, hn_put, skip_n]; omega))) only [go_sem, l0, show (c.fit.cs w).length = 12 from rfl, s5, l5]
  exact ⟨w, rfl, (k53.at3.put _).drop.drop⟩
end
end Go.Proofs.Ytdncenepmkbolaa
