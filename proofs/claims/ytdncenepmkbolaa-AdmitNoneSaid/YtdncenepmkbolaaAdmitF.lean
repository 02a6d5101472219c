/-
  'AdmitBars': the law's run, whatever is handed in.
-/
import Derived.Test.YtdncenepmkbolaaAdmitE
namespace Go.Proofs.Ytdncenepmkbolaa
open Go Go.Abs Go.Abs.S Go.Abs.W
set_option maxRecDepth 10000
set_option maxHeartbeats 4000000
theorem pars9 : Try.f9.params.toList = [92, 93] := by kernel_rfl
theorem shape92 : shapeOf Try.prog 9 92 = some [.int .i64, .int .i64, .int .i64, .sl 1 [.int .i64], .int .i64, .int .i64, .int .i64, .int .i64, .int .i64, .int .i64, .int .i64, .int .i64] := by kernel_rfl
theorem shape93 : shapeOf Try.prog 9 93 = some [.sl 7 [.int .u8, .int .u8, .int .u8, .int .u8, .int .u8, .int .u8, .bool]] := by kernel_rfl
theorem agg92 : aggT Try.prog 92 = true := by kernel_rfl
theorem agg93 : aggT Try.prog 93 = false := by kernel_rfl
theorem cfg_arg {h : Go.Abs.H} {l : List AV} (k : ShL h [.int .i64, .int .i64, .int .i64, .sl 1 [.int .i64], .int .i64, .int .i64, .int .i64, .int .i64, .int .i64, .int .i64, .int .i64, .int .i64] l) : ∃ (c : C11) (v : AV), l = c.cs v ∧ Sh1 h (.sl 1 [.int .i64]) v := by
  obtain ⟨_, _, rfl, ⟨a, rfl, _⟩, _, _, rfl, ⟨b, rfl, _⟩, _, _, rfl, ⟨c, rfl, _⟩, v, _, rfl, hv, _, _, rfl, ⟨d, rfl, _⟩, _, _, rfl, ⟨e, rfl, _⟩, _, _, rfl, ⟨f, rfl, _⟩, _, _, rfl, ⟨g, rfl, _⟩, _, _, rfl, ⟨i, rfl, _⟩, _, _, rfl, ⟨j, rfl, _⟩, _, _, rfl, ⟨m, rfl, _⟩, _, _, rfl, ⟨n, rfl, _⟩, rfl⟩ := k
  exact ⟨⟨a, b, c, d, e, f, g, i, j, m, n⟩, v, rfl, hv⟩
theorem ints_rows {h : Go.Abs.H} : ∀ {xs : List (List AV)}, (∀ r ∈ xs, ShL h [.int .i64] r) → ∃ qs : List Int, xs = qrows qs
  | [], _ => ⟨[], rfl⟩
  | r :: xs, hr => by
    obtain ⟨_, _, e, ⟨x, rfl, _⟩, rfl⟩ := hr r (by simp)
    obtain ⟨qs, rfl⟩ := ints_rows (xs := xs) fun r hm => hr r (by simp [hm])
    exact ⟨x :: qs, by rw [e]; rfl⟩
theorem fit_fit (c : C11) : c.fit = c.fit.fit := by
  cases c
  simp only [C11.fit, C11.mk.injEq]
  omega
theorem fitQ_ok (qs : List Int) : (1 ≤ (fitQ qs).length ∧ (fitQ qs).length ≤ 4) ∧ ∀ q ∈ fitQ qs, 96 ≤ q ∧ q ≤ 65536 := by
  unfold fitQ
  split
  · simp
  · rename_i h
    have := List.length_pos_iff.2 h
    refine ⟨by rw [List.length_map, List.length_take]; omega, fun q hq => ?_⟩
    rw [List.mem_map] at hq
    obtain ⟨x, _, rfl⟩ := hq
    unfold fitN; omega
theorem try_row {h : Go.Abs.H} {r : List AV} (k : ShL h [.int .u8, .int .u8, .int .u8, .int .u8, .int .u8, .int .u8, .bool] r) : ∃ (a b c d e f : Int) (g : Bool), r = [.int .u8 a, .int .u8 b, .int .u8 c, .int .u8 d, .int .u8 e, .int .u8 f, .bool g] ∧ (0 ≤ a ∧ a ≤ 255) ∧ (0 ≤ b ∧ b ≤ 255) ∧ (0 ≤ c ∧ c ≤ 255) ∧ (0 ≤ d ∧ d ≤ 255) ∧ (0 ≤ e ∧ e ≤ 255) ∧ (0 ≤ f ∧ f ≤ 255) := by
  obtain ⟨_, _, rfl, ⟨a, rfl, a1, a2⟩, _, _, rfl, ⟨b, rfl, b1, b2⟩, _, _, rfl, ⟨c, rfl, c1, c2⟩, _, _, rfl, ⟨d, rfl, d1, d2⟩, _, _, rfl, ⟨e, rfl, e1, e2⟩, _, _, rfl, ⟨f, rfl, f1, f2⟩, _, _, rfl, ⟨g, rfl⟩, rfl⟩ := k
  exact ⟨a, b, c, d, e, f, g, rfl, ⟨a1, a2⟩, ⟨b1, b2⟩, ⟨c1, c2⟩, ⟨d1, d2⟩, ⟨e1, e2⟩, ⟨f1, f2⟩⟩
theorem offered_ok {n : Nat} (hn : 1 ≤ n) (h : Go.Abs.H) : callX env sums n 48 [] h = some (.bool true, h) := sum48 hn h
/-- pairs of numbers in an array -/
abbrev PrC (b : Nat) (bs : List (Int × Int)) : Ch := Cell b (.rows 12 [prs bs] false none none)
section
variable {h h0 : Go.Abs.H} {L : List Ch} {b i : Nat} {bs : List (Int × Int)} {p : Int × Int}
theorem pr_get (k : Hs h0 (PrC b bs :: L) h) (h6 : bs.length = 6) (hp : bs[i]? = some p) : cellG (i * 2) (h.get b) = some (.int .i64 p.1) ∧ cellG (i * 2 + 1) (h.get b) = some (.int .i64 p.2) := by
  have hl := (List.getElem?_eq_some_iff.1 hp).1
  have := prs_nth (A := []) (B := []) hp
  rw [List.append_nil, List.nil_append, List.length_nil, Nat.zero_add] at this
  rw [k.get, cellG_one _ _ _ _ _ _ (by omega) (by omega), cellG_one _ _ _ _ _ _ (by omega) (by omega)]
  exact this
theorem pr_set (k : Hs h0 (PrC b bs :: L) h) (h6 : bs.length = 6) (hi : i < 6) (x y : Int) : storeB h b (i * 2) [.int .i64 x, .int .i64 y] (h.get b) = some (h.put b (.rows 12 [prs (bs.set i (x, y))] false none none)) ∧ Hs h0 (PrC b (bs.set i (x, y)) :: L) (h.put b (.rows 12 [prs (bs.set i (x, y))] false none none)) := by
  refine ⟨?_, k.put _⟩
  have := prs_over (A := []) (B := []) (bs := bs) (k := i) (by omega) x y
  rw [List.append_nil, List.nil_append, List.append_nil, List.nil_append, List.length_nil, Nat.zero_add] at this
  rw [k.get, storeB_rows, storeG_one _ _ _ _ (by omega), this]
end
theorem law9 (h0 : Go.Abs.H) (l : List AV) (ho : HOk h0) (ha : Args h0 Try.prog Try.f9.params.toList l) : ∃ n h', callX env sums n 9 l h0 = some (.bool true, h') := by
  rw [pars9] at ha
  obtain ⟨v0, r0, rfl, a0, v1, r1, rfl, a1, rfl⟩ := ha
  obtain ⟨l0, rfl, hl0⟩ := arg_agg shape92 agg92 a0
  obtain ⟨c, vq, rfl, hvq⟩ := cfg_arg hl0
  obtain ⟨qx, hqs, hqrow, hqlen⟩ := sl_of_sh (by omega) hvq
  obtain ⟨qs, rfl⟩ := ints_rows hqrow
  have hqb := sl_blk ho hvq
  have hs1 := arg_one shape93 agg93 a1
  obtain ⟨xs, hsl, hrow, hlen⟩ := sl_of_sh (by omega) hs1
  have hblk := sl_blk ho hs1
  obtain ⟨N, hN⟩ : ∃ N, N = 3000 := ⟨_, rfl⟩
  suffices hh : W.Spec env sums (N + 1) 9 [.agg (c.cs vq), v1] h0 (fun r _ => r = .bool true) by
    obtain ⟨v, h', e, rfl⟩ := hh
    exact ⟨N + 1, h', e⟩
  have ar0 : arrI 2 0 = some 0 := rfl
  have ar1 : arrI 2 1 = some 1 := rfl
  generalize hX : Blk.rows 12 [c.cs vq] false none none = X
  have k1 := (Hs.start h0).new X
  refine spec_trN [.agg (c.cs vq), .v v1] rfl ft9 (by kernel_rfl) (tn9 ..) ?_
  rw [hX]
  refine ⟨rfl, ?_⟩
  rw [show ∀ K, (stdN env (callX env sums N) N).new h0 X K = K h0.n (h0.new X) from fun _ => rfl]
  generalize hHH : h0.new X = H1 at k1 ⊢
  generalize hb0 : h0.n = b0 at k1 ⊢
  have g3 : cellG 3 (H1.get b0) = some vq := by rw [k1.get, ← hX, cellG_one _ _ _ _ _ _ (by omega) (by omega)]; rfl
  have l0 : loadG 0 12 (H1.get b0) = some (c.cs vq) := by rw [k1.get, ← hX, loadG_zero _ _ _ _ _ (by omega)]; rfl
  have hql : lenS vq = some qs.length := by have := hqs.len; rwa [qrows_len] at this
  by_cases h20 : (20 : Int) < qs.length
  · simp (disch := (first | omega | assumption | rfl | (simp only [hn_new, hn_put, skip_n]; omega))) only [go_sem, g3, hql, offered_ok (n := N) (by omega)]
  by_cases h60 : (60 : Int) < xs.length
  · simp (disch := (first | omega | assumption | rfl | (simp only [hn_new, hn_put, skip_n]; omega))) only [go_sem, g3, hql, hsl.len, offered_ok (n := N) (by omega)]
  simp (disch := (first | omega | assumption | rfl | (simp only [hn_new, hn_put, skip_n]; omega))) only [go_sem, g3, hql, hsl.len, l0]
  refine on2_exb (g := fun v' => .agg (c.fit.cs v')) (ref_fit (by omega) c (hqs.keep fun b hb => k1.ext.2 b (hqb b hb)) (fun b hb => Nat.lt_of_lt_of_le (hqb b hb) k1.ext.1)) fun v' h13 kf => ?_
  have k13 := hs_onto k1 kf
  obtain ⟨d, hd⟩ : ∃ d, c.fit = d := ⟨_, rfl⟩
  have hdd : d = d.fit := by rw [← hd]; exact fit_fit c
  rw [hd]
  have s0 : storeB h13 b0 0 (d.cs v') (h13.get b0) = some (h13.put b0 (.rows 12 [d.cs v'] false none none)) := by
    rw [show h13.get b0 = some X from k13.at2.get, ← hX, storeB_rows, storeG_one _ _ _ _ (by omega), atN_zero, over_full (by rfl)]
  have k15 : Hs h0 (LsC 1 v' (qrows (fitQ qs)) :: [Cell b0 (.rows 12 [d.cs v'] false none none)]) _ := (k13.at2.put (.rows 12 [d.cs v'] false none none)).at2
  generalize hh15 : h13.put b0 (.rows 12 [d.cs v'] false none none) = h15 at s0 k15
  have l15 : loadG 0 12 (h15.get b0) = some (d.cs v') := by rw [k15.at2.get, loadG_zero _ _ _ _ _ (by omega)]; rfl
  simp (disch := (first | omega | assumption | rfl | (simp only [hn_new, hn_put, skip_n]; omega))) only [go_sem, show (d.cs v').length = 12 from rfl, s0, l15]
  have hfo := fitQ_ok qs
  refine on2_exb (g := fun a : Nat => .tup [.ptr a 0, .int .i64 0]) (adm_new (n := N) (by omega) d k15 hfo.1 hfo.2 hdd) fun a h18 ⟨s, vs, cls, hf, k18⟩ => ?_
  have hcl : 1 ≤ d.cli ∧ d.cli ≤ 6 := by rw [hdd]; simp only [C11.fit]; omega
  obtain ⟨q, hq⟩ : ∃ q : Int, ((fitQ qs).length : Int) = q := ⟨_, rfl⟩
  rw [hq] at k18
  have k19 : Hs h0 (Cell b0 (.rows 12 [d.cs v'] false none none) :: AdC a s d.cli q (List.replicate 6 (0, 0)) (List.replicate 6 0) :: SL s vs d.queue.toNat cls 0 false [LsC 1 v' (qrows (fitQ qs))]) h18 := by
    have e : SL s vs d.queue.toNat cls 0 false (LsC 1 v' (qrows (fitQ qs)) :: [Cell b0 (.rows 12 [d.cs v'] false none none)]) = SL s vs d.queue.toNat cls 0 false [LsC 1 v' (qrows (fitQ qs))] ++ [Cell b0 (.rows 12 [d.cs v'] false none none)] := by
      simp [SL, List.append_assoc]
    rw [e] at k18
    exact k18.perm (List.perm_append_singleton _ (AdC a s d.cli q (List.replicate 6 (0, 0)) (List.replicate 6 0) :: SL s vs d.queue.toNat cls 0 false [LsC 1 v' (qrows (fitQ qs))]))
  generalize SL s vs d.queue.toNat cls 0 false [LsC 1 v' (qrows (fitQ qs))] = L3 at k19
  have k23 := (k19.new (.rows 12 [prs (List.replicate 6 (0, 0))] false none none)).at3
  simp (disch := (first | omega | assumption | rfl | (simp only [hn_new, hn_put, skip_n]; omega))) only [go_sem]
  generalize h18.n = b22 at k23 ⊢
  refine ⟨fun l m h => ∃ (i : Nat) (bs : List (Int × Int)), l = [.int .i64 i] ∧ m = xs.length - i ∧ i ≤ xs.length ∧ bs.length = 6 ∧ Hs h0 (AdC a s d.cli q bs (List.replicate 6 0) :: PrC b22 bs :: Cell b0 (.rows 12 [d.cs v'] false none none) :: L3) h, ⟨xs.length, by omega, 0, _, rfl, by omega, by omega, by simp, k23⟩, ?_⟩
  clear k23 k19 k18 l15 s0 k15 k13 kf l0 g3
  intro n26 m27 h28 ⟨i, bs, e, hm, hi, h6, k28⟩
  cases e; subst hm
  have hslh : SlR h28 7 v1 xs := hsl.keep fun b hb => k28.ext.2 b (hblk b hb)
  have gcl : cellG 2 (h28.get b0) = some (.int .i64 d.cli) := by rw [k28.at3.get, cellG_one _ _ _ _ _ _ (by omega) (by omega)]; rfl
  by_cases hlt : (i : Int) < xs.length
  rotate_left
  · have hz1 : ¬ ((0 ≤ d.cli ∧ d.cli ≤ d.cli - 1) ∧ (1 ≤ (1 : Int) ∧ (1 : Int) ≤ 1099511627776) ∧ (1 ≤ (1 : Int) ∧ (1 : Int) ≤ 1099511627776)) := by omega
    have hz2 : ¬ (0 ≤ d.cli ∧ d.cli ≤ d.cli - 1) := by omega
    simp (disch := (first | omega | assumption | rfl | (simp only [hn_new, hn_put, skip_n]; omega))) only [go_sem, hslh.len, gcl, adm_bar_arg (n := N) (by omega) k28 hcl hz1, adm_barred_no (n := N) (by omega) k28 hcl hz2, offered_ok (n := N) (by omega)]
  obtain ⟨r, hr⟩ : ∃ r, xs[i]? = some r := ⟨xs[i], List.getElem?_eq_getElem (by omega)⟩
  obtain ⟨ra, rb, rc, rd, re, rf, rg, rfl, u1, u2, u3, _⟩ := try_row (hrow r (List.mem_of_getElem? hr))
  obtain ⟨b, o, p1, _, p3, _⟩ := hslh.idx hr
  have g0 : cellG o (h28.get b) = some (.int .u8 ra) := by have := p3 0 (by omega); rw [cellQ_some _ _ _ (by omega)] at this; exact this
  have g1 : cellG (o + 1) (h28.get b) = some (.int .u8 rb) := by have := p3 1 (by omega); rw [cellQ_some _ _ _ (by omega)] at this; exact this
  have g2 : cellG (o + 2) (h28.get b) = some (.int .u8 rc) := by have := p3 2 (by omega); rw [cellQ_some _ _ _ (by omega)] at this; exact this
  obtain ⟨k, hk⟩ : ∃ k : Nat, ra.tmod d.cli = k := ⟨(ra.tmod d.cli).toNat, by rw [Int.tmod_eq_emod_of_nonneg u1.1]; have := Int.emod_nonneg ra (show d.cli ≠ 0 by omega); omega⟩
  have hkc : (k : Int) < d.cli := by rw [← hk, Int.tmod_eq_emod_of_nonneg u1.1]; exact Int.emod_lt_of_pos _ (by omega)
  obtain ⟨sq, hsq⟩ : ∃ sq : Int, 1 + rb.tmod 6 = sq := ⟨_, rfl⟩
  obtain ⟨tr, htr⟩ : ∃ tr : Int, 1 + rc.tmod 5 = tr := ⟨_, rfl⟩
  have hsq1 : 1 ≤ sq ∧ sq ≤ 6 := by rw [Int.tmod_eq_emod_of_nonneg u2.1] at hsq; omega
  have htr1 : 1 ≤ tr ∧ tr ≤ 5 := by rw [Int.tmod_eq_emod_of_nonneg u3.1] at htr; omega
  have c6 : ¬ (6 : Int) = 0 := by omega
  have c5 : ¬ (5 : Int) = 0 := by omega
  have ccl : ¬ d.cli = 0 := by omega
  have k31 := k28.more ((Keep.refl _ _).skip 28)
  simp (disch := (first | omega | assumption | rfl | (simp only [hn_new, hn_put, skip_n]; omega))) only [go_sem, hslh.len, p1, g0, g1, g2, gcl, c6, c5, ccl, hk, hsq, htr]
  refine on2_ex (adm_bar (n := N) (by omega) k31 hcl h6 hkc (x := sq) (y := tr) (by omega) (by omega)) fun h43 k43 => ?_
  obtain ⟨p, hp⟩ : ∃ p, bs[k]? = some p := ⟨bs[k]'(by omega), List.getElem?_eq_getElem _⟩
  have ark := arr6 (i := k) (by omega)
  obtain ⟨y1, y2⟩ := pr_get k43.at2 h6 hp
  obtain ⟨t1, t2⟩ := pr_set k43.at2 h6 (i := k) (by omega) sq tr
  have hb : barB bs k (sq, tr) = if before p (sq, tr) then bs.set k (sq, tr) else bs := by unfold barB; rw [hp]
  have hbl := barB_len bs k (sq, tr)
  simp (disch := (first | omega | assumption | rfl | (simp only [hn_new, hn_put, skip_n]; omega))) only [go_sem]
  refine ⟨fun l h => l = [] ∧ ∃ bs : List (Int × Int), bs.length = 6 ∧ Hs h0 (AdC a s d.cli q bs (List.replicate 6 0) :: PrC b22 bs :: Cell b0 (.rows 12 [d.cs v'] false none none) :: L3) h, ?_, ?_⟩
  · have yes : before p (sq, tr) → Hs h0 (AdC a s d.cli q (bs.set k (sq, tr)) (List.replicate 6 0) :: PrC b22 (bs.set k (sq, tr)) :: Cell b0 (.rows 12 [d.cs v'] false none none) :: L3) (h43.put b22 (.rows 12 [prs (bs.set k (sq, tr))] false none none)) := fun hbf => by
      rw [hb, if_pos hbf] at t2
      exact t2.at2
    have no : ¬ before p (sq, tr) → Hs h0 (AdC a s d.cli q bs (List.replicate 6 0) :: PrC b22 bs :: Cell b0 (.rows 12 [d.cs v'] false none none) :: L3) h43 := fun hbf => by
      rw [hb, if_neg hbf] at k43
      exact k43
    by_cases q1 : p.1 < sq
    · simp (disch := (first | omega | assumption | rfl | (simp only [hn_new, hn_put, skip_n]; omega))) only [go_sem, hk, hsq, htr, ark, ar0, ar1, y1, y2, t1, c6, c5, Nat.zero_mul, Nat.one_mul]
      exact ⟨_, by simpa using h6, yes (.inl q1)⟩
    by_cases q2 : sq = p.1
    · by_cases q3 : p.2 < tr
      · simp (disch := (first | omega | assumption | rfl | (simp only [hn_new, hn_put, skip_n]; omega))) only [go_sem, hk, hsq, htr, ark, ar0, ar1, y1, y2, t1, c6, c5, Nat.zero_mul, Nat.one_mul]
        exact ⟨_, by simpa using h6, yes (.inr ⟨q2.symm, q3⟩)⟩
      · simp (disch := (first | omega | assumption | rfl | (simp only [hn_new, hn_put, skip_n]; omega))) only [go_sem, hk, hsq, htr, ark, ar0, ar1, y1, y2, t1, c6, c5, Nat.zero_mul, Nat.one_mul]
        exact ⟨_, h6, no (by rintro (h | h) <;> omega)⟩
    · simp (disch := (first | omega | assumption | rfl | (simp only [hn_new, hn_put, skip_n]; omega))) only [go_sem, hk, hsq, htr, ark, ar0, ar1, y1, y2, t1, c6, c5, Nat.zero_mul, Nat.one_mul]
      exact ⟨_, h6, no (by rintro (h | h) <;> omega)⟩
  clear t1 t2 y1 y2 hb hbl hp k43 k31 k28 h6 gcl hslh
  intro h60 ⟨_, bs, h6, k60⟩
  refine ⟨fun l m h => ∃ j : Nat, l = [.int .i64 j] ∧ m = 6 - j ∧ (j : Int) ≤ d.cli ∧ Hs h0 (AdC a s d.cli q bs (List.replicate 6 0) :: PrC b22 bs :: Cell b0 (.rows 12 [d.cs v'] false none none) :: L3) h, ⟨6, by omega, 0, rfl, by omega, by omega, k60⟩, ?_⟩
  intro n63 m64 h65 ⟨j, e, hm, hj, k65⟩
  cases e; subst hm
  have gcl : cellG 2 (h65.get b0) = some (.int .i64 d.cli) := by rw [k65.at3.get, cellG_one _ _ _ _ _ _ (by omega) (by omega)]; rfl
  by_cases hjc : (j : Int) < d.cli
  rotate_left
  · simp (disch := (first | omega | assumption | rfl | (simp only [hn_new, hn_put, skip_n]; omega))) only [go_sem, gcl]
    exact ⟨xs.length - (i + 1), by omega, i + 1, bs, by simp, rfl, by omega, h6, k65⟩
  obtain ⟨p, hp⟩ : ∃ p, bs[j]? = some p := ⟨bs[j]'(by omega), List.getElem?_eq_getElem _⟩
  have arj := arr6 (i := j) (by omega)
  simp (disch := (first | omega | assumption | rfl | (simp only [hn_new, hn_put, skip_n]; omega))) only [go_sem, gcl]
  refine ⟨fun l m h => ∃ u : Nat, l = [.int .i64 u] ∧ m = 8 - u ∧ u ≤ 8 ∧ Hs h0 (AdC a s d.cli q bs (List.replicate 6 0) :: PrC b22 bs :: Cell b0 (.rows 12 [d.cs v'] false none none) :: L3) h, ⟨7, by omega, 1, rfl, by omega, by omega, k65⟩, ?_⟩
  intro n69 m70 h71 ⟨u, e, hm, hu, k71⟩
  cases e; subst hm
  by_cases hu8 : (u : Int) < 8
  rotate_left
  · simp (disch := (first | omega | assumption | rfl | (simp only [hn_new, hn_put, skip_n]; omega))) only [go_sem]
    exact ⟨6 - (j + 1), by omega, j + 1, by simp, rfl, by omega, k71⟩
  simp (disch := (first | omega | assumption | rfl | (simp only [hn_new, hn_put, skip_n]; omega))) only [go_sem]
  refine ⟨fun l m h => ∃ t : Nat, l = [.int .i64 t] ∧ m = 7 - t ∧ t ≤ 7 ∧ Hs h0 (AdC a s d.cli q bs (List.replicate 6 0) :: PrC b22 bs :: Cell b0 (.rows 12 [d.cs v'] false none none) :: L3) h, ⟨6, by omega, 1, rfl, by omega, by omega, k71⟩, ?_⟩
  intro n74 m75 h76 ⟨t, e, hm, ht, k76⟩
  cases e; subst hm
  by_cases ht7 : (t : Int) < 7
  rotate_left
  · simp (disch := (first | omega | assumption | rfl | (simp only [hn_new, hn_put, skip_n]; omega))) only [go_sem]
    exact ⟨8 - (u + 1), by omega, u + 1, by simp, rfl, by omega, k76⟩
  have k78 := k76.more ((Keep.refl _ _).skip 28)
  obtain ⟨z1, z2⟩ := pr_get k76.at2 h6 hp
  simp (disch := (first | omega | assumption | rfl | (simp only [hn_new, hn_put, skip_n]; omega))) only [go_sem]
  refine on2_ex (adm_barred (n := N) (by omega) k78 hcl h6 hjc hp u t) fun h80 kp => ?_
  have k80 := k78.more kp
  obtain ⟨y1, y2⟩ := pr_get k80.at2 h6 hp
  by_cases q1 : (u : Int) < p.1
  · have hd1 : decide (before p ((u : Int), (t : Int))) = false := decide_eq_false (by rintro (h | h) <;> omega)
    simp (disch := (first | omega | assumption | rfl | (simp only [hn_new, hn_put, skip_n]; omega))) only [go_sem, hd1, arj, ar0, ar1, y1, y2, z1, z2, Nat.zero_mul, Nat.one_mul]
    exact ⟨7 - (t + 1), by omega, t + 1, by simp, rfl, by omega, k80⟩
  by_cases q2 : (u : Int) = p.1
  · by_cases q3 : (t : Int) ≤ p.2
    · have hd1 : decide (before p ((u : Int), (t : Int))) = false := decide_eq_false (by rintro (h | h) <;> omega)
      simp (disch := (first | omega | assumption | rfl | (simp only [hn_new, hn_put, skip_n]; omega))) only [go_sem, hd1, arj, ar0, ar1, y1, y2, z1, z2, Nat.zero_mul, Nat.one_mul]
      exact ⟨7 - (t + 1), by omega, t + 1, by simp, rfl, by omega, k80⟩
    · have hd1 : decide (before p ((u : Int), (t : Int))) = true := decide_eq_true (.inr ⟨q2.symm, by omega⟩)
      simp (disch := (first | omega | assumption | rfl | (simp only [hn_new, hn_put, skip_n]; omega))) only [go_sem, hd1, arj, ar0, ar1, y1, y2, z1, z2, Nat.zero_mul, Nat.one_mul]
      exact ⟨7 - (t + 1), by omega, t + 1, by simp, rfl, by omega, k80⟩
  · have hd1 : decide (before p ((u : Int), (t : Int))) = true := decide_eq_true (.inl (by omega))
    simp (disch := (first | omega | assumption | rfl | (simp only [hn_new, hn_put, skip_n]; omega))) only [go_sem, hd1, arj, ar0, ar1, y1, y2, z1, z2, Nat.zero_mul, Nat.one_mul]
    exact ⟨7 - (t + 1), by omega, t + 1, by simp, rfl, by omega, k80⟩
end Go.Proofs.Ytdncenepmkbolaa
