/-
  'AdmitNone': the document's Check; what is gone through.
-/
import Derived.Test.YtdncenepmkbolaaAdmitO
import Derived.Test.YtdncenepmkbolaaSv
namespace Go.Proofs.Ytdncenepmkbolaa
open Go Go.Abs Go.Abs.S Go.Abs.W
set_option maxRecDepth 10000
set_option maxHeartbeats 4000000
section
variable {h h0 : Go.Abs.H} {n : Nat} {qs : List Int} {v : AV}
theorem within87 (hn : 1 ≤ n) (x lo hi : Int) (h : Go.Abs.H) : callX env sums n 87 [.int .i64 x, .int .i64 lo, .int .i64 hi] h = some (.bool (decide (lo ≤ x ∧ x ≤ hi)), h) := by
  obtain ⟨n, rfl⟩ : ∃ k, n = k + 1 := ⟨n - 1, by omega⟩
  refine spec_eq (spec_trN [.int .i64 x, .int .i64 lo, .int .i64 hi] rfl ft87 (by kernel_rfl) (tn87 ..) ?_)
  by_cases h1 : lo ≤ x
  · simp (disch := (first | omega | assumption | rfl | (simp only [hn_new, hn_put, skip_n]; omega))) only [go_sem]
    simp [h1]
  · simp (disch := (first | omega | assumption | rfl | (simp only [hn_new, hn_put, skip_n]; omega))) only [go_sem]
    first | done | simp [h1]
/-- what may be -/
structure RW (c : C11) (qs : List Int) : Prop where
  nodes : 1 ≤ c.nodes ∧ c.nodes ≤ 6
  chain : 1 ≤ c.chain ∧ c.chain ≤ c.nodes
  cli : 1 ≤ c.cli ∧ c.cli ≤ 6
  len : 1 ≤ (qs.length : Int) ∧ (qs.length : Int) ≤ 4
  qs : ∀ q ∈ qs, 96 ≤ q ∧ q ≤ 65536
  queue : 1 ≤ c.queue ∧ c.queue ≤ 16
  win : 1 ≤ c.win ∧ c.win ≤ 16
  reads : 1 ≤ c.reads ∧ c.reads ≤ 16
  link : 4 ≤ c.link ∧ c.link ≤ 64
  pat : 4 ≤ c.pat ∧ c.pat ≤ 64
  tmo : 4 ≤ c.tmo ∧ c.tmo ≤ 64
  bud : 0 ≤ c.bud ∧ c.bud ≤ 16
  refl : 1 ≤ c.refl ∧ c.refl ≤ 1099511627776
theorem rw_iff (c : C11) (qs : List Int) : RW c qs ↔ (qs = fitQ qs ∧ c = c.fit) := by
  constructor
  · intro k
    refine ⟨?_, ?_⟩
    · have hne : qs ≠ [] := by rintro rfl; have := k.len; simp at this
      unfold fitQ
      rw [if_neg hne, List.take_of_length_le (by have := k.len; omega)]
      have : qs.map fitN = qs.map id := List.map_congr_left fun q hq => by
        have := k.qs q hq
        unfold fitN; simp only [id]; omega
      rw [this, List.map_id]
    · obtain ⟨a, b, c1, d, e, f, g, i, j, l, m⟩ := c
      have k1 := k.nodes; have k2 := k.chain; have k3 := k.cli; have k4 := k.queue; have k5 := k.win; have k6 := k.reads; have k7 := k.link; have k8 := k.pat; have k9 := k.tmo; have k10 := k.bud; have k11 := k.refl
      simp only [C11.fit, C11.mk.injEq] at *
      omega
  · rintro ⟨h1, h2⟩
    have hf := fitQ_ok qs
    rw [← h1] at hf
    rw [h2]
    refine ⟨by simp only [C11.fit]; omega, by simp only [C11.fit]; omega, by simp only [C11.fit]; omega, by omega, hf.2, by simp only [C11.fit]; omega, by simp only [C11.fit]; omega, by simp only [C11.fit]; omega, by simp only [C11.fit]; omega, by simp only [C11.fit]; omega, by simp only [C11.fit]; omega, by simp only [C11.fit]; omega, by simp only [C11.fit]; omega⟩
theorem ref_check (hn : 1200 ≤ n) (c : C11) (hl : qs.length ≤ 1000) (hq : SlR h 1 v (qrows qs)) (bv : ∀ b, blkOf v = some b → b < h.n) :
    ∃ x h', callX env sums n 64 [.agg (c.cs v)] h = some (.int .i64 x, h') ∧ Keep h h' [] ∧ (RW c qs → x = 0) ∧ (¬ RW c qs → x = 2) := by
  obtain ⟨n, rfl⟩ : ∃ k, n = k + 1 := ⟨n - 1, by omega⟩
  suffices hh : W.Spec env sums (n + 1) 64 [.agg (c.cs v)] h (fun a h' => ∃ x, a = .int .i64 x ∧ Keep h h' [] ∧ (RW c qs → x = 0) ∧ (¬ RW c qs → x = 2)) from by
    obtain ⟨a, h', e, x, rfl, q⟩ := hh; exact ⟨x, h', e, q⟩
  generalize hX : Blk.rows 12 [c.cs v] false none none = X
  have k1 := (Hs.start h).new X
  refine spec_trN [.agg (c.cs v)] rfl ft64 (by kernel_rfl) (tm64 ..) ?_
  rw [hX]
  refine ⟨rfl, ?_⟩
  rw [show ∀ K, (stdN env (callX env sums n) n).new h X K = K h.n (h.new X) from fun _ => rfl]
  generalize hHH : h.new X = HH at k1 ⊢
  have kk : Keep h HH [] := ⟨k1.ext.1, fun b hb _ => k1.ext.2 b hb⟩
  have hv := hq.keep (h' := HH) fun b hb => k1.ext.2 b (bv b hb)
  have hvl : lenS v = some qs.length := by have := hq.len; rwa [qrows_len] at this
  generalize h.n = b0 at k1 ⊢
  have gi : ∀ i, i < 12 → cellG i (HH.get b0) = nth (c.cs v) i := fun i hi => by rw [k1.get, ← hX, cellG_one _ _ _ _ _ _ hi (by omega)]
  have g0 : cellG 0 (HH.get b0) = some (.int .i64 c.nodes) := gi 0 (by omega)
  have g1 : cellG 1 (HH.get b0) = some (.int .i64 c.chain) := gi 1 (by omega)
  have g2 : cellG 2 (HH.get b0) = some (.int .i64 c.cli) := gi 2 (by omega)
  have g3 : cellG 3 (HH.get b0) = some v := gi 3 (by omega)
  have g4 : cellG 4 (HH.get b0) = some (.int .i64 c.queue) := gi 4 (by omega)
  have g5 : cellG 5 (HH.get b0) = some (.int .i64 c.win) := gi 5 (by omega)
  have g6 : cellG 6 (HH.get b0) = some (.int .i64 c.reads) := gi 6 (by omega)
  have g7 : cellG 7 (HH.get b0) = some (.int .i64 c.link) := gi 7 (by omega)
  have g8 : cellG 8 (HH.get b0) = some (.int .i64 c.pat) := gi 8 (by omega)
  have g9 : cellG 9 (HH.get b0) = some (.int .i64 c.tmo) := gi 9 (by omega)
  have g10 : cellG 10 (HH.get b0) = some (.int .i64 c.bud) := gi 10 (by omega)
  have g11 : cellG 11 (HH.get b0) = some (.int .i64 c.refl) := gi 11 (by omega)
  have w87 := fun x lo hi h => within87 (n := n) (by omega) x lo hi h
  obtain ⟨A, hA⟩ : ∃ A : Prop, ((1 ≤ c.nodes ∧ c.nodes ≤ 6) ∧ (1 ≤ c.chain ∧ c.chain ≤ c.nodes) ∧ (1 ≤ c.cli ∧ c.cli ≤ 6) ∧ (1 ≤ (qs.length : Int) ∧ (qs.length : Int) ≤ 4)) = A := ⟨_, rfl⟩
  refine ⟨fun l H => H = HH ∧ ∃ ok : Bool, l = [.bool ok] ∧ (ok = true ↔ A), ?_, ?_⟩
  · by_cases h1 : 1 ≤ c.nodes ∧ c.nodes ≤ 6
    rotate_left
    · simp (disch := (first | omega | assumption | rfl | (simp only [hn_new, hn_put, skip_n]; omega))) only [go_sem, g0, w87, decide_eq_false h1]
      exact ⟨false, rfl, by rw [← hA]; simp; intro a b; exact absurd ⟨a, b⟩ h1⟩
    by_cases h2 : 1 ≤ c.chain ∧ c.chain ≤ c.nodes
    rotate_left
    · simp (disch := (first | omega | assumption | rfl | (simp only [hn_new, hn_put, skip_n]; omega))) only [go_sem, g0, g1, w87, decide_eq_true h1, decide_eq_false h2]
      exact ⟨false, rfl, ⟨(fun e => by cases e), fun e => by rw [← hA] at e; exact absurd e.2.1 h2⟩⟩
    by_cases h3 : 1 ≤ c.cli ∧ c.cli ≤ 6
    rotate_left
    · simp (disch := (first | omega | assumption | rfl | (simp only [hn_new, hn_put, skip_n]; omega))) only [go_sem, g0, g1, g2, w87, decide_eq_true h1, decide_eq_true h2, decide_eq_false h3]
      exact ⟨false, rfl, ⟨(fun e => by cases e), fun e => by rw [← hA] at e; exact absurd e.2.2.1 h3⟩⟩
    simp (disch := (first | omega | assumption | rfl | (simp only [hn_new, hn_put, skip_n]; omega))) only [go_sem, g0, g1, g2, g3, hvl, w87, decide_eq_true h1, decide_eq_true h2, decide_eq_true h3]
    exact ⟨_, rfl, by rw [← hA, decide_eq_true_iff]; exact ⟨fun e => ⟨h1, h2, h3, e⟩, fun e => e.2.2.2⟩⟩
  intro c22 h23 ⟨eH, ok, e, hok⟩
  cases e; subst eH
  refine ⟨fun l μ H => H = h23 ∧ ∃ (i : Nat) (ok : Bool), l = [.bool ok, .int .i64 i] ∧ μ = qs.length - i ∧ i ≤ qs.length ∧ (ok = true ↔ (A ∧ ∀ q ∈ qs.take i, 96 ≤ q ∧ q ≤ 65536)), ⟨qs.length, by omega, rfl, 0, c22, rfl, by omega, by omega, by rw [hok]; simp⟩, ?_⟩
  intro c26 n27 μ28 h29 ⟨eH, i, ok2, e, hμ, hi, hok2⟩
  cases e; subst hμ eH
  by_cases hlt : (i : Int) < qs.length
  · obtain ⟨q, hqi⟩ : ∃ q, qs[i]? = some q := ⟨qs[i], List.getElem?_eq_getElem (by omega)⟩
    have htk : ∀ P : Int → Prop, (∀ x ∈ qs.take (i + 1), P x) ↔ ((∀ x ∈ qs.take i, P x) ∧ P q) := fun P => by
      rw [List.take_add_one, hqi]
      simp only [Option.toList, List.mem_append, List.mem_singleton]
      exact ⟨fun h => ⟨fun x hx => h x (.inl hx), h q (.inr rfl)⟩, fun h x hx => hx.elim (h.1 x) (fun e => e ▸ h.2)⟩
    obtain ⟨b, o, p1, _, p3, _⟩ := hv.idx (qrows_get hqi)
    have pq : cellG o (h29.get b) = some (.int .i64 q) := by have := p3 0 (by omega); rwa [Nat.add_zero] at this
    cases c26 with
    | true =>
      simp (disch := (first | omega | assumption | rfl | (simp only [hn_new, hn_put, skip_n]; omega))) only [go_sem, g3, hvl, p1, pq, w87]
      refine ⟨qs.length - (i + 1), by omega, rfl, i + 1, _, by simp; rfl, rfl, by omega, ?_⟩
      rw [htk]
      have := hok2.1 rfl
      simp [this.1]
      exact fun _ _ => this.2
    | false =>
      simp (disch := (first | omega | assumption | rfl | (simp only [hn_new, hn_put, skip_n]; omega))) only [go_sem, g3, hvl]
      refine ⟨qs.length - (i + 1), by omega, rfl, i + 1, false, by simp, rfl, by omega, ?_⟩
      rw [htk]
      exact ⟨(fun e => by cases e), fun e => hok2.2 ⟨e.1, e.2.1⟩⟩
  have hie : i = qs.length := by omega
  subst hie
  rw [List.take_length] at hok2
  cases c26 with
  | false =>
    simp (disch := (first | omega | assumption | rfl | (simp only [hn_new, hn_put, skip_n]; omega))) only [go_sem, g3, hvl]
    refine ⟨2, rfl, kk, fun k => ?_, fun _ => rfl⟩
    have := hok2.2 ⟨by rw [← hA]; exact ⟨k.nodes, k.chain, k.cli, k.len⟩, k.qs⟩
    cases this
  | true =>
    obtain ⟨a1, a2⟩ := hok2.1 rfl
    rw [← hA] at a1
    by_cases h4 : 1 ≤ c.queue ∧ c.queue ≤ 16
    rotate_left
    · simp (disch := (first | omega | assumption | rfl | (simp only [hn_new, hn_put, skip_n]; omega))) only [go_sem, g3, hvl, g4, w87, decide_eq_false h4]
      exact ⟨2, rfl, kk, fun k => absurd k.queue h4, fun _ => rfl⟩
    by_cases h5 : 1 ≤ c.win ∧ c.win ≤ 16
    rotate_left
    · simp (disch := (first | omega | assumption | rfl | (simp only [hn_new, hn_put, skip_n]; omega))) only [go_sem, g3, hvl, g4, g5, w87, decide_eq_true h4, decide_eq_false h5]
      exact ⟨2, rfl, kk, fun k => absurd k.win h5, fun _ => rfl⟩
    by_cases h6 : 1 ≤ c.reads ∧ c.reads ≤ 16
    rotate_left
    · simp (disch := (first | omega | assumption | rfl | (simp only [hn_new, hn_put, skip_n]; omega))) only [go_sem, g3, hvl, g4, g5, g6, w87, decide_eq_true h4, decide_eq_true h5, decide_eq_false h6]
      exact ⟨2, rfl, kk, fun k => absurd k.reads h6, fun _ => rfl⟩
    by_cases h7 : 4 ≤ c.link ∧ c.link ≤ 64
    rotate_left
    · simp (disch := (first | omega | assumption | rfl | (simp only [hn_new, hn_put, skip_n]; omega))) only [go_sem, g3, hvl, g4, g5, g6, g7, w87, decide_eq_true h4, decide_eq_true h5, decide_eq_true h6, decide_eq_false h7]
      exact ⟨2, rfl, kk, fun k => absurd k.link h7, fun _ => rfl⟩
    by_cases h8 : 4 ≤ c.pat ∧ c.pat ≤ 64
    rotate_left
    · simp (disch := (first | omega | assumption | rfl | (simp only [hn_new, hn_put, skip_n]; omega))) only [go_sem, g3, hvl, g4, g5, g6, g7, g8, w87, decide_eq_true h4, decide_eq_true h5, decide_eq_true h6, decide_eq_true h7, decide_eq_false h8]
      exact ⟨2, rfl, kk, fun k => absurd k.pat h8, fun _ => rfl⟩
    by_cases h9 : 4 ≤ c.tmo ∧ c.tmo ≤ 64
    rotate_left
    · simp (disch := (first | omega | assumption | rfl | (simp only [hn_new, hn_put, skip_n]; omega))) only [go_sem, g3, hvl, g4, g5, g6, g7, g8, g9, w87, decide_eq_true h4, decide_eq_true h5, decide_eq_true h6, decide_eq_true h7, decide_eq_true h8, decide_eq_false h9]
      exact ⟨2, rfl, kk, fun k => absurd k.tmo h9, fun _ => rfl⟩
    by_cases h10 : 0 ≤ c.bud ∧ c.bud ≤ 16
    rotate_left
    · simp (disch := (first | omega | assumption | rfl | (simp only [hn_new, hn_put, skip_n]; omega))) only [go_sem, g3, hvl, g4, g5, g6, g7, g8, g9, g10, w87, decide_eq_true h4, decide_eq_true h5, decide_eq_true h6, decide_eq_true h7, decide_eq_true h8, decide_eq_true h9, decide_eq_false h10]
      exact ⟨2, rfl, kk, fun k => absurd k.bud h10, fun _ => rfl⟩
    by_cases h11 : 1 ≤ c.refl ∧ c.refl ≤ 1099511627776
    rotate_left
    · simp (disch := (first | omega | assumption | rfl | (simp only [hn_new, hn_put, skip_n]; omega))) only [go_sem, g3, hvl, g4, g5, g6, g7, g8, g9, g10, g11, w87, decide_eq_true h4, decide_eq_true h5, decide_eq_true h6, decide_eq_true h7, decide_eq_true h8, decide_eq_true h9, decide_eq_true h10, decide_eq_false h11]
      exact ⟨2, rfl, kk, fun k => absurd k.refl h11, fun _ => rfl⟩
    simp (disch := (first | omega | assumption | rfl | (simp only [hn_new, hn_put, skip_n]; omega))) only [go_sem, g3, hvl, g4, g5, g6, g7, g8, g9, g10, g11, w87, decide_eq_true h4, decide_eq_true h5, decide_eq_true h6, decide_eq_true h7, decide_eq_true h8, decide_eq_true h9, decide_eq_true h10, decide_eq_true h11]
    exact ⟨0, rfl, kk, fun _ => rfl, fun k => absurd ⟨a1.1, a1.2.1, a1.2.2.1, a1.2.2.2, a2, h4, h5, h6, h7, h8, h9, h10, h11⟩ k⟩
end
end Go.Proofs.Ytdncenepmkbolaa
