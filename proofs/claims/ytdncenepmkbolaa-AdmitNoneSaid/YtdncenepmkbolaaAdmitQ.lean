/-
  'AdmitNone': the law's run, whatever is handed in.
-/
import Derived.Test.YtdncenepmkbolaaAdmitP
namespace Go.Proofs.Ytdncenepmkbolaa
open Go Go.Abs Go.Abs.S Go.Abs.W
set_option maxRecDepth 10000
set_option maxHeartbeats 4000000
theorem pars12 : Try.f12.params.toList = [92, 113] := by kernel_rfl
noncomputable def shA : List Sh := match shapeOf Try.prog 9 113 with
  | some l => l
  | none => []
theorem shape113 : shapeOf Try.prog 9 113 = some shA := by kernel_rfl
theorem agg113 : aggT Try.prog 113 = true := by kernel_rfl
theorem shA_len : shA.length = 31 := by kernel_rfl
theorem sh3 : nth shA 3 = some (.int .i64) := by kernel_rfl
theorem sh4 : nth shA 4 = some (.int .i64) := by kernel_rfl
theorem sh5 : nth shA 5 = some (.int .i64) := by kernel_rfl
theorem sh30 : nth shA 30 = some (.int .i64) := by kernel_rfl
theorem sh9 : nth shA 9 = some .str := by kernel_rfl
theorem sh10 : nth shA 10 = some .str := by kernel_rfl
theorem sh25 : nth shA 25 = some (.sl 2 [.int .i64, .int .i64]) := by kernel_rfl
section
variable {h h0 : Go.Abs.H} {n : Nat} {qs : List Int} {v : AV} {cs : List AV}
theorem int_at {i : Nat} (k : ShL h shA cs) (e : nth shA i = some (.int .i64)) : ∃ x, nth cs i = some (.int .i64 x) := by
  obtain ⟨v, h1, x, rfl, _⟩ := shl_nth _ _ _ _ k e
  exact ⟨x, h1⟩
theorem str_at {i : Nat} (k : ShL h shA cs) (e : nth shA i = some .str) : ∃ x, nth cs i = some (.str x) := by
  obtain ⟨v, h1, x, rfl, _⟩ := shl_nth _ _ _ _ k e
  exact ⟨x, h1⟩
theorem sl_at {i : Nat} (k : ShL h shA cs) (e : nth shA i = some (.sl 2 [.int .i64, .int .i64])) : ∃ w m, nth cs i = some w ∧ lenS w = some m := by
  obtain ⟨v, h1, h2⟩ := shl_nth _ _ _ _ k e
  obtain ⟨rs, h3, _⟩ := sl_of_sh (by omega) h2
  exact ⟨v, rs.length, h1, h3.len⟩
theorem same_raw (hv : Sh1 h (.sl 1 [.int .i64]) v) : sameV v v = true := by
  rcases hv with rfl | rfl | ⟨b, rs, cap, rfl, _⟩
  · rfl
  · rfl
  · exact same_sl _ _ _ _
theorem cut_raw (hv : Sh1 h (.sl 1 [.int .i64]) v) (hq : SlR h 1 v (qrows qs)) (bv : ∀ b, blkOf v = some b → b < h.n) : CutOk h v qs := by
  have hl := hq.len
  rw [qrows_len] at hl
  rcases hv with rfl | rfl | ⟨b, rs, cap, rfl, hget, hpos, hcap, _⟩
  · have h0 : qs.length = 0 := by have e : (some 0 : Option Nat) = some qs.length := hl; exact (Option.some.inj e).symm
    have : qs = [] := List.length_eq_zero_iff.1 h0
    subst this
    exact ⟨.nils, by kernel_rfl, .inl ⟨rfl, .inl rfl⟩, fun b hb => by cases hb⟩
  · have h0 : qs.length = 0 := by have e : (some 0 : Option Nat) = some qs.length := hl; exact (Option.some.inj e).symm
    have : qs = [] := List.length_eq_zero_iff.1 h0
    subst this
    exact ⟨.top .emp, by kernel_rfl, .inl ⟨rfl, .inr (.inl rfl)⟩, fun b hb => by cases hb⟩
  · have hlen : rs.length = qs.length := by have e : some rs.length = some qs.length := hl; exact Option.some.inj e
    rcases hq with ⟨hr, _⟩ | ⟨b', i0, all, ro, p, q, k1, k2, k3, k4⟩
    · have := congrArg List.length hr
      rw [qrows_len, List.length_nil] at this
      omega
    · have hi0 : b' = b ∧ i0 = 0 := by
        rcases k3 with ⟨cap', e⟩ | e
        · simp only [AV.sl.injEq, Nat.mul_one] at e
          exact ⟨e.1.symm, e.2.1.symm⟩
        · cases e
      obtain ⟨rfl, rfl⟩ := hi0
      have hst := slis63'
      unfold slIs at hst
      split at hst
      · rename_i ti hti
        split at hst
        · rename_i e he
          split at hst
          · rename_i te hte
            have hj : min (qs.length : Int) 4 = ((min qs.length 4 : Nat) : Int) := by omega
            have e1 : bounds rs.length cap none (some ((min qs.length 4 : Nat) : Int)) none = some (0, min qs.length 4, cap) := by
              simp only [bounds, natOf_ofNat, ble_t (Nat.le_refl cap), ble_t (show min qs.length 4 ≤ cap by omega), ble_t (Nat.zero_le (min qs.length 4))]
            have hc0 : Nat.beq cap 0 = false := by
              cases cap with
              | zero => omega
              | succ c => rfl
            refine ⟨.sl b' 0 (min qs.length 4) cap, ?_, .inr ⟨b', 0, all, ro, p, q, k1, by omega, .inl ⟨cap, ?_⟩, fun i hi => ?_⟩, fun x hx => bv x hx⟩
            · rw [hj]
              simp only [sliceOp, hti, he, hte, e1, hc0, Nat.zero_mul, Nat.add_zero, Nat.sub_zero]
            · rw [qrows_len, List.length_take, Nat.min_comm]
            · rw [qrows_len, List.length_take] at hi
              rw [k4 i (by rw [qrows_len]; omega)]
              simp only [qrows, List.getElem?_map]
              rw [List.getElem?_take_of_lt (by omega)]
          · cases hst
        · cases hst
      · cases hst
theorem great_any (hn : 3 ≤ n) {b : Nat} (hb : h.get b = some (.rows 31 [cs] false none none)) {s1 s2 : List UInt8} {w : AV} {m : Nat} (h9 : nth cs 9 = some (.str s1)) (h10 : nth cs 10 = some (.str s2)) (h25 : nth cs 25 = some w) (hw : lenS w = some m) :
    ∃ r, callX env sums n 60 [.sl b 0 1 1, .int .i64 1] h = some (.bool r, h) := by
  obtain ⟨n, rfl⟩ : ∃ k, n = k + 1 := ⟨n - 1, by omega⟩
  suffices hh : W.Spec env sums (n + 1) 60 [.sl b 0 1 1, .int .i64 1] h (fun a h' => h' = h ∧ ∃ r, a = .bool r) from by
    obtain ⟨a, h', e, rfl, r, rfl⟩ := hh; exact ⟨r, e⟩
  have c9 : cellG 9 (h.get b) = some (.str s1) := by rw [hb, cellG_one _ _ _ _ _ _ (by omega) (by omega), h9]
  have c10 : cellG 10 (h.get b) = some (.str s2) := by rw [hb, cellG_one _ _ _ _ _ _ (by omega) (by omega), h10]
  have c25 : cellG 25 (h.get b) = some w := by rw [hb, cellG_one _ _ _ _ _ _ (by omega) (by omega), h25]
  have l1 : lenS (.sl b 0 1 1) = some 1 := rfl
  have ix : idxS 31 (.sl b 0 1 1) ((0 : Nat) : Int) = some (b, 0) := rfl
  refine spec_trN [.v (.sl b 0 1 1), .int .i64 1] rfl ft60 (by kernel_rfl) (tn60 ..) ?_
  refine ⟨fun l μ H => H = h ∧ ∃ i : Nat, l = [.int .i64 i] ∧ μ = 1 - i ∧ i ≤ 1, ⟨1, by omega, rfl, 0, rfl, by omega, by omega⟩, ?_⟩
  intro n2 m3 h4 ⟨eH, i, e, hm, hi⟩
  cases e; subst hm eH
  have hii : i = 0 ∨ i = 1 := by omega
  rcases hii with rfl | rfl
  rotate_left
  · simp (disch := (first | omega | assumption | rfl | (simp only [hn_new, hn_put, skip_n]; omega))) only [go_sem, l1]
    exact ⟨_, rfl⟩
  by_cases q1 : (200 : Int) < s1.length
  · simp (disch := (first | omega | assumption | rfl | (simp only [hn_new, hn_put, skip_n]; omega))) only [go_sem, l1, ix, c9]
    exact ⟨_, rfl⟩
  by_cases q2 : (200 : Int) < s2.length
  · simp (disch := (first | omega | assumption | rfl | (simp only [hn_new, hn_put, skip_n]; omega))) only [go_sem, l1, ix, c9, c10]
    exact ⟨_, rfl⟩
  by_cases q3 : (0 : Int) < m
  · simp (disch := (first | omega | assumption | rfl | (simp only [hn_new, hn_put, skip_n]; omega))) only [go_sem, l1, ix, c9, c10, c25, hw]
    exact ⟨_, rfl⟩
  simp (disch := (first | omega | assumption | rfl | (simp only [hn_new, hn_put, skip_n]; omega))) only [go_sem, l1, ix, c9, c10, c25, hw]
  exact ⟨0, by omega, rfl, 1, rfl, rfl, by omega⟩
end
theorem law12 (h0 : Go.Abs.H) (l : List AV) (ho : HOk h0) (ha : Args h0 Try.prog Try.f12.params.toList l) : ∃ n h', callX env sums n 12 l h0 = some (.bool true, h') := by
  rw [pars12] at ha
  obtain ⟨v0, r0, rfl, a0, v1, r1, rfl, a1, rfl⟩ := ha
  obtain ⟨l0, rfl, hl0⟩ := arg_agg shape92 agg92 a0
  obtain ⟨c, vq, rfl, hvq⟩ := cfg_arg hl0
  obtain ⟨qx, hqs, hqrow, hqlen⟩ := sl_of_sh (by omega) hvq
  obtain ⟨qs, rfl⟩ := ints_rows hqrow
  have hqb := sl_blk ho hvq
  obtain ⟨cs, rfl, hcs⟩ := arg_agg shape113 agg113 a1
  have hlen : cs.length = 31 := by rw [hcs.length, shA_len]
  obtain ⟨z3, e3⟩ := int_at hcs sh3
  obtain ⟨z4, e4⟩ := int_at hcs sh4
  obtain ⟨z5, e5⟩ := int_at hcs sh5
  obtain ⟨z30, e30⟩ := int_at hcs sh30
  obtain ⟨s9, e9⟩ := str_at hcs sh9
  obtain ⟨s10, e10⟩ := str_at hcs sh10
  obtain ⟨w25, m25, e25, hw25⟩ := sl_at hcs sh25
  obtain ⟨N, hN⟩ : ∃ N, N = 3000 := ⟨_, rfl⟩
  suffices hh : W.Spec env sums (N + 1) 12 [.agg (c.cs vq), .agg cs] h0 (fun r _ => r = .bool true) by
    obtain ⟨v, h', e, rfl⟩ := hh
    exact ⟨N + 1, h', e⟩
  generalize hX : Blk.rows 12 [c.cs vq] false none none = X
  generalize hY : Blk.rows 31 [cs] false none none = Y
  have k3 := ((Hs.start h0).new X).new Y
  refine spec_trN [.agg (c.cs vq), .agg cs] rfl ft12 (by kernel_rfl) (tn12 ..) ?_
  rw [hX]
  refine ⟨rfl, ?_⟩
  rw [show ∀ K, (stdN env (callX env sums N) N).new h0 X K = K h0.n (h0.new X) from fun _ => rfl]
  rw [hY]
  refine ⟨by rw [lenN_eq]; exact hlen, ?_⟩
  rw [show ∀ K, (stdN env (callX env sums N) N).new (h0.new X) Y K = K (h0.new X).n ((h0.new X).new Y) from fun _ => rfl]
  have hb2 : (h0.new X).n = h0.n + 1 := rfl
  rw [hb2] at k3 ⊢
  generalize hHH : (h0.new X).new Y = H3 at k3 ⊢
  generalize hbb : h0.n + 1 = b2 at k3 ⊢
  generalize hb0 : h0.n = b0 at k3 ⊢
  have cf : ∀ {H : Go.Abs.H} {L : List Ch}, Hs h0 (Cell b2 Y :: Cell b0 X :: L) H → cellG 3 (H.get b2) = some (.int .i64 z3) ∧ cellG 4 (H.get b2) = some (.int .i64 z4) ∧ cellG 5 (H.get b2) = some (.int .i64 z5) ∧ cellG 30 (H.get b2) = some (.int .i64 z30) ∧ loadG 1 29 (H.get b2) = some ((cs.drop 1).take 29) ∧ loadG 0 31 (H.get b2) = some cs ∧ cellG 3 (H.get b0) = some vq ∧ loadG 0 12 (H.get b0) = some (c.cs vq) := fun k => by
    rw [k.get, k.at2.get, ← hX, ← hY]
    refine ⟨by rw [cellG_one _ _ _ _ _ _ (by omega) (by omega), e3], by rw [cellG_one _ _ _ _ _ _ (by omega) (by omega), e4], by rw [cellG_one _ _ _ _ _ _ (by omega) (by omega), e5], by rw [cellG_one _ _ _ _ _ _ (by omega) (by omega), e30], ?_, by rw [loadG_zero _ _ _ _ _ (by omega)]; rfl, by rw [cellG_one _ _ _ _ _ _ (by omega) (by omega)]; rfl, by rw [loadG_zero _ _ _ _ _ (by omega)]; rfl⟩
    rw [loadG_part _ _ _ _ _ _ _ (by omega) (by omega), takeN_some (by omega)]
  have hfl : ((cs.drop 1).take 29).length = 29 := by rw [List.length_take, List.length_drop]; omega
  have hql : lenS vq = some qs.length := by have := hqs.len; rwa [qrows_len] at this
  obtain ⟨_, _, _, _, _, f31, f3, _⟩ := cf k3
  by_cases h20 : (20 : Int) < qs.length
  · simp (disch := (first | omega | assumption | rfl | (simp only [hn_new, hn_put, skip_n]; omega))) only [go_sem, f3, hql, offered_ok (n := N) (by omega)]
  have k11 := k3.new Y
  have hg11 := k11.get
  rw [← hY] at hg11
  obtain ⟨gr, hgr⟩ := great_any (n := N) (by omega) hg11 e9 e10 e25 hw25
  rw [hY] at hgr
  simp (disch := (first | omega | assumption | rfl | (simp only [hn_new, hn_put, skip_n]; omega))) only [go_sem, f3, hql, f31, hlen, hY, hgr]
  cases gr with
  | true => simp (disch := (first | omega | assumption | rfl | (simp only [hn_new, hn_put, skip_n]; omega))) only [go_sem, offered_ok (n := N) (by omega)]
  | false =>
    have k13 := k11.drop
    generalize H3.new Y = H13 at k13 ⊢
    simp (disch := (first | omega | assumption | rfl | (simp only [hn_new, hn_put, skip_n]; omega))) only [go_sem]
    refine ⟨fun l μ h => ∃ (u : Nat) (x : AV), l = [x, .int .i64 u] ∧ μ = 2 - u ∧ u ≤ 2 ∧ NA x h ∧ Hs h0 [Cell b2 Y, Cell b0 X] h, ⟨2, by omega, 0, .nilp, rfl, rfl, by omega, .inl rfl, k13⟩, ?_⟩
    intro x n21 μ22 h23 ⟨u, x0, e, hμ, hu, hna, k23⟩
    cases e; subst hμ
    obtain ⟨d3, d4, d5, d30, dF, _, _, dC⟩ := cf k23
    by_cases hu2 : (u : Int) < 2
    rotate_left
    · -- of a configuration as it is
      have kk : Keep h0 h23 [] := ⟨k23.ext.1, fun b hb _ => k23.ext.2 b hb⟩
      have hq23 := hqs.keep (h' := h23) fun b hb => k23.ext.2 b (hqb b hb)
      have bv23 : ∀ b, blkOf vq = some b → b < h23.n := fun b hb => Nat.lt_of_lt_of_le (hqb b hb) k23.ext.1
      have cut23 := (cut_raw hvq hqs hqb).keep kk
      have sv := same_raw hvq
      simp (disch := (first | omega | assumption | rfl | (simp only [hn_new, hn_put, skip_n]; omega))) only [go_sem, dC]
      refine on2_ex2 (adm_newR (n := N) (by omega) c (by omega) hq23 bv23 cut23 sv) fun xr h78 ⟨kp, hy, hno⟩ => ?_
      have k78 := k23.more kp
      obtain ⟨_, _, _, _, _, _, _, dC2⟩ := cf k78
      have hrc := ref_check (n := N) (h := h78) (by omega) c (by omega) (hq23.keep fun b hb => kp.2 b (bv23 b hb) (by simp)) (fun b hb => Nat.lt_of_lt_of_le (bv23 b hb) kp.1)
      obtain ⟨xc, h84, hec, _, hc0, hc2⟩ := hrc
      by_cases hgood : qs = fitQ qs ∧ c = c.fit
      · obtain ⟨a, ha⟩ := hy hgood
        have hx0 := hc0 ((rw_iff c qs).2 hgood)
        subst ha hx0
        simp (disch := (first | omega | assumption | rfl | (simp only [hn_new, hn_put, skip_n]; omega))) only [go_sem, dC2, hec, eqn95, show (false == false) = true from rfl, offered_ok (n := N) (by omega)]
      · have hx := hno hgood
        have hx2 := hc2 (fun e => hgood ((rw_iff c qs).1 e))
        subst hx hx2
        have c2 : ¬ (2 : Int) = 0 := by omega
        simp (disch := (first | omega | assumption | rfl | (simp only [hn_new, hn_put, skip_n]; omega))) only [go_sem, dC2, hec, nn95, c2, show (true == true) = true from rfl, offered_ok (n := N) (by omega)]
    simp (disch := (first | omega | assumption | rfl | (simp only [hn_new, hn_put, skip_n]; omega))) only [go_sem, d30]
    refine on2_ex (na_next (n := N) (by omega) hna z30) fun h26 kp1 => ?_
    have ov : over zeroC zeroC = some zeroC := over_full rfl
    have k34 := ((k23.more kp1).new (.rows 29 [zeroC] false none none)).put (.rows 29 [zeroC] false none none)
    have na34 : NA x ((h26.new (.rows 29 [zeroC] false none none)).put h26.n (.rows 29 [zeroC] false none none)) := by
      refine (hna.keep kp1).keep ?_
      have := (((Hs.start h26).new (.rows 29 [zeroC] false none none)).put (.rows 29 [zeroC] false none none)).ext
      exact ⟨this.1, fun b hb _ => this.2 b hb⟩
    have k34 := k34.drop
    simp (disch := (first | omega | assumption | rfl | (simp only [hn_new, hn_put, skip_n]; omega))) only [go_sem, show zeroC.length = 29 from rfl, ov]
    generalize (h26.new (.rows 29 [zeroC] false none none)).put h26.n (.rows 29 [zeroC] false none none) = h34 at k34 na34 ⊢
    obtain ⟨d3, _, _, _, dF, _, _, _⟩ := cf k34
    simp (disch := (first | omega | assumption | rfl | (simp only [hn_new, hn_put, skip_n]; omega))) only [go_sem, d3, na_waits (n := N) (by omega) na34, dF]
    refine on2_ex (na_may (n := N) (by omega) na34 hfl) fun h44 kp2 => ?_
    have k44 := k34.more kp2
    obtain ⟨_, _, _, d30, dF, _, _, _⟩ := cf k44
    simp (disch := (first | omega | assumption | rfl | (simp only [hn_new, hn_put, skip_n]; omega))) only [go_sem, dF, d30]
    refine on2_ex (na_offer (n := N) (by omega) (na34.keep kp2) hfl z30) fun h49 kp3 => ?_
    have k49 := k44.more kp3
    have na49 := (na34.keep kp2).keep kp3
    obtain ⟨d3, d4, d5, _, _, _, _, _⟩ := cf k49
    have ln : lenS .nils = some 0 := rfl
    have bn : binop env .neq 95 .nilp .nilp = some (.bool false) := by kernel_rfl
    simp (disch := (first | omega | assumption | rfl | (simp only [hn_new, hn_put, skip_n]; omega))) only [go_sem, ln, d3, d4, d5, na_barred (n := N) (by omega) na49, na_bar (n := N) (by omega) na49, na_flush (n := N) (by omega) na49, na_len (n := N) (by omega) na49, na_served (n := N) (by omega) na49, na_copy (n := N) (by omega) na49, bn]
    exact ⟨2 - (u + 1), by omega, u + 1, .ptr h49.n 0, by simp, rfl, by omega, .inr ⟨h49.n, rfl, by rw [hn_new]; omega, by rw [get_new_same, cellG_one _ _ _ _ _ _ (by omega) (by omega)]; rfl⟩, (k49.new _).drop⟩
end Go.Proofs.Ytdncenepmkbolaa
