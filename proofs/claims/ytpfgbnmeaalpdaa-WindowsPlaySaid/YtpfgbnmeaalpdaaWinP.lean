/-
  Windows: what each of the document's functions does, and a copy.
-/
import Derived.Test.YtpfgbnmeaalpdaaWinB
import Derived.Test.YtpfgbnmeaalpdaaTp
namespace Go.Proofs.Ytpfgbnmeaalpdaa
open Go Go.Abs Go.Abs.S Go.Abs.W
set_option maxRecDepth 10000
set_option maxHeartbeats 1000000

theorem ft70 : env.ft.get 70 = some Try.f70 := by kernel_rfl
variable {h : Go.Abs.H} {w : Nat} {c l d s m : Int} {n : Nat}

theorem r_ack_ok (hn : 1 ≤ n) (i : Int) (hw : h.get w = some (winB c l d s m)) (hc : WinOk c l d s m) (h1 : d < i) (h2 : i ≤ l) : callX env sums n 47 [.ptr w 0, .int .i64 i] h = some (.bool true, h.put w (winB c l i s m)) := by
  obtain ⟨n, rfl⟩ : ∃ k, n = k + 1 := ⟨n - 1, by omega⟩
  have hw' := hw
  unfold winB at hw'
  have ⟨c1, c2, d1, d2, l2, s1, s2, m1, m2⟩ := hc
  refine spec_eq (spec_tr [.ptr w 0, .int .i64 i] rfl ft47 (by kernel_rfl) (tr47 ..) ?_)
  simp (disch := (first | omega | assumption)) only [go_sem, hw', winB]
theorem r_ack_no (hn : 1 ≤ n) (i : Int) (hw : h.get w = some (winB c l d s m)) (hc : WinOk c l d s m) (h1 : i ≤ d ∨ l < i) : callX env sums n 47 [.ptr w 0, .int .i64 i] h = some (.bool false, h) := by
  obtain ⟨n, rfl⟩ : ∃ k, n = k + 1 := ⟨n - 1, by omega⟩
  have hw' := hw
  unfold winB at hw'
  have ⟨c1, c2, d1, d2, l2, s1, s2, m1, m2⟩ := hc
  refine spec_eq (spec_tr [.ptr w 0, .int .i64 i] rfl ft47 (by kernel_rfl) (tr47 ..) ?_)
  by_cases hd : i ≤ d
  · simp (disch := (first | omega | assumption)) only [go_sem, hw']
  · simp (disch := (first | omega | assumption)) only [go_sem, hw']
theorem r_grant_ok (hn : 1 ≤ n) (i : Int) (hw : h.get w = some (winB c l d s m)) (hc : WinOk c l d s m) : ∃ h', callX env sums n 48 [.ptr w 0, .int .i64 i] h = some (.tup [], h') ∧ h'.get w = some (winB c l d s (max m (min i 4112))) ∧ Keep h h' [w] := by
  obtain ⟨n, rfl⟩ : ∃ k, n = k + 1 := ⟨n - 1, by omega⟩
  have hw' := hw
  unfold winB at hw'
  have ⟨c1, c2, d1, d2, l2, s1, s2, m1, m2⟩ := hc
  have kp : ∀ x, Keep h (h.put w x) [w] := fun x => (Keep.refl h _).put (.inr (by simp)) x
  by_cases h1 : 4112 < i
  · by_cases h2 : m < 4112
    · refine ⟨h.put w (winB c l d s 4112), ?_, by rw [get_put_same, show max m (min i 4112) = 4112 by omega], kp _⟩
      refine spec_eq (spec_tr [.ptr w 0, .int .i64 i] rfl ft48 (by kernel_rfl) (tr48 ..) ?_)
      simp (disch := (first | omega | assumption)) only [go_sem, hw', winB]
    · refine ⟨h, ?_, by rw [hw, show max m (min i 4112) = m by omega], Keep.refl _ _⟩
      refine spec_eq (spec_tr [.ptr w 0, .int .i64 i] rfl ft48 (by kernel_rfl) (tr48 ..) ?_)
      simp (disch := (first | omega | assumption)) only [go_sem, hw', winB]
  · by_cases h2 : m < i
    · refine ⟨h.put w (winB c l d s i), ?_, by rw [get_put_same, show max m (min i 4112) = i by omega], kp _⟩
      refine spec_eq (spec_tr [.ptr w 0, .int .i64 i] rfl ft48 (by kernel_rfl) (tr48 ..) ?_)
      simp (disch := (first | omega | assumption)) only [go_sem, hw', winB]
    · refine ⟨h, ?_, by rw [hw, show max m (min i 4112) = m by omega], Keep.refl _ _⟩
      refine spec_eq (spec_tr [.ptr w 0, .int .i64 i] rfl ft48 (by kernel_rfl) (tr48 ..) ?_)
      simp (disch := (first | omega | assumption)) only [go_sem, hw', winB]
theorem r_back_ok (hn : 1 ≤ n) (i : Int) (hw : h.get w = some (winB c l d s m)) (hc : WinOk c l d s m) : callX env sums n 50 [.ptr w 0, .int .i64 i] h = some (.tup [], h.put w (winB c l d (max (min i l) 0) m)) := by
  obtain ⟨n, rfl⟩ : ∃ k, n = k + 1 := ⟨n - 1, by omega⟩
  have hw' := hw
  unfold winB at hw'
  have ⟨c1, c2, d1, d2, l2, s1, s2, m1, m2⟩ := hc
  by_cases h1 : i < 0
  · refine spec_eq (spec_tr [.ptr w 0, .int .i64 i] rfl ft50 (by kernel_rfl) (tr50 ..) ?_)
    simp (disch := (first | omega | assumption)) only [go_sem, hw', winB, show max (min i l) 0 = 0 by omega]
  · by_cases h2 : l < i
    · refine spec_eq (spec_tr [.ptr w 0, .int .i64 i] rfl ft50 (by kernel_rfl) (tr50 ..) ?_)
      simp (disch := (first | omega | assumption)) only [go_sem, hw', winB, show max (min i l) 0 = l by omega]
    · refine spec_eq (spec_tr [.ptr w 0, .int .i64 i] rfl ft50 (by kernel_rfl) (tr50 ..) ?_)
      simp (disch := (first | omega | assumption)) only [go_sem, hw', winB, show max (min i l) 0 = i by omega]
theorem r_renew_ok (hn : 1 ≤ n) (hw : h.get w = some (winB c l d s m)) (hc : WinOk c l d s m) : callX env sums n 51 [.ptr w 0] h = some (.tup [], h.put w (winB c l d l 0)) := by
  obtain ⟨n, rfl⟩ : ∃ k, n = k + 1 := ⟨n - 1, by omega⟩
  have hw' := hw
  unfold winB at hw'
  have ⟨c1, c2, d1, d2, l2, s1, s2, m1, m2⟩ := hc
  refine spec_eq (spec_tr [.ptr w 0] rfl ft51 (by kernel_rfl) (tr51 ..) ?_)
  simp (disch := (first | omega | assumption)) only [go_sem, hw', winB]
theorem r_next_no (hn : 1 ≤ n) (hw : h.get w = some (winB c l d s m)) (hc : WinOk c l d s m) (h1 : min l m ≤ s) : callX env sums n 49 [.ptr w 0] h = some (.tup [.int .i64 0, .bool false], h.skip 20) := by
  obtain ⟨n, rfl⟩ : ∃ k, n = k + 1 := ⟨n - 1, by omega⟩
  have hw' := hw
  unfold winB at hw'
  have ⟨c1, c2, d1, d2, l2, s1, s2, m1, m2⟩ := hc
  refine spec_eq (spec_tr [.ptr w 0] rfl ft49 (by kernel_rfl) (tr49 ..) ?_)
  by_cases hd : l ≤ s
  · simp (disch := (first | omega | assumption)) only [go_sem, hw']
  · simp (disch := (first | omega | assumption)) only [go_sem, hw']
theorem r_next_ok (hn : 1 ≤ n) (hw : h.get w = some (winB c l d s m)) (hc : WinOk c l d s m) (h1 : s < min l m) : callX env sums n 49 [.ptr w 0] h = some (.tup [.int .i64 (s + 1), .bool true], (h.put w (winB c l d (s + 1) m)).skip 20) := by
  obtain ⟨n, rfl⟩ : ∃ k, n = k + 1 := ⟨n - 1, by omega⟩
  have hw' := hw
  unfold winB at hw'
  have ⟨c1, c2, d1, d2, l2, s1, s2, m1, m2⟩ := hc
  refine spec_eq (spec_tr [.ptr w 0] rfl ft49 (by kernel_rfl) (tr49 ..) ?_)
  simp (disch := (first | omega | assumption)) only [go_sem, hw', winB]
/-- what is free, counted -/
theorem r_free_ok (hn : 100 ≤ n) (hw : h.get w = some (winB c l d s m)) (hc : WinOk c l d s m) : ∃ k, callX env sums n 70 [.ptr w 0] h = some (.int .i64 (max 0 (min (d + c) 4096 - l)), h.skip k) := by
  obtain ⟨n, rfl⟩ : ∃ k, n = k + 1 := ⟨n - 1, by omega⟩
  have hw' := hw
  unfold winB at hw'
  have ⟨c1, c2, d1, d2, l2, s1, s2, m1, m2⟩ := hc
  suffices hh : W.Spec env sums (n + 1) 70 [.ptr w 0] h (fun r h' => r = .int .i64 (max 0 (min (d + c) 4096 - l)) ∧ ∃ k, h' = h.skip k) by
    obtain ⟨v, h', e, rfl, k, rfl⟩ := hh
    exact ⟨k, e⟩
  refine spec_evb [.ptr w 0] rfl ft70 (by kernel_rfl) ?_
  rw [show initS [.ptr w 0] 0 .nil = frS [(0, .ptr w 0)] from rfl]
  refine EvX.of (c := sub [] (bodyOf Try.f70)) ?_
  rw [cs70_]
  refine ev_seq (ev_tr (tr70a ..) ?_)
  show EvX _ _ _ (sub [1] (bodyOf Try.f70)) _ _ _
  rw [cs70_1]
  refine ev_seq (ev_tr (tr70b ..) ?_)
  show EvX _ _ _ (sub [1, 1] (bodyOf Try.f70)) _ _ _
  rw [cs70_11]
  refine ev_seq ?_
  rw [cs70_110]
  refine ev_seq (ev_tr (tr70c ..) ?_)
  simp (disch := (first | omega | assumption)) only [go_sem, hw']
  show EvX _ _ _ (sub [1, 1, 0, 1] (bodyOf Try.f70)) _ _ _
  rw [cs70_1101]
  refine ev_block ?_
  rw [cs70_11010]
  refine loop_rule (fun q f h' => ∃ (i z : Int) (k : Nat), f = frS [(0, .ptr w 0), (3, .int .i64 z), (4, .int .i64 i)] ∧ z = i - (l + 1) ∧ l + 1 ≤ i ∧ (i ≤ min (d + c) 4096 + 1 ∨ i = l + 1) ∧ q = (20 + l - i).toNat ∧ h' = h.skip k) ?_ (m := 19) (by omega) ⟨l + 1, 0, 0, rfl, by omega, by omega, .inr rfl, by omega, rfl⟩
  intro q f h' ⟨i, z, k, hf, hz, hi1, hi2, hq, hh⟩
  subst hf hz hh
  refine ev_tr (tr70d ..) ?_
  by_cases ht : i ≤ d + c ∧ i ≤ 4096
  · obtain ⟨t1, t2⟩ := ht
    simp (disch := (first | omega | assumption)) only [go_sem, hw']
    refine ⟨(20 + l - (i + 1)).toNat, by omega, i + 1, _, _, rfl, by omega, by omega, .inl (by omega), rfl, rfl⟩
  · by_cases t1 : i ≤ d + c
    · have t2 : 4096 < i := by omega
      simp (disch := (first | omega | assumption)) only [go_sem, hw']
      show EvX _ _ _ (sub [1, 1, 1] (bodyOf Try.f70)) _ _ _
      refine EvX.less (f0 := frS [(0, .ptr w 0), (3, .int .i64 (i - (l + 1)))]) ?_ (less_of ⟨⟨_, rfl, rfl⟩, ⟨_, rfl, rfl⟩, trivial⟩)
      refine ev_tr (tr70e ..) ?_
      refine ⟨?_, _, rfl⟩
      show AV.int .i64 _ = _
      congr 1
      omega
    · simp (disch := (first | omega | assumption)) only [go_sem, hw']
      show EvX _ _ _ (sub [1, 1, 1] (bodyOf Try.f70)) _ _ _
      refine EvX.less (f0 := frS [(0, .ptr w 0), (3, .int .i64 (i - (l + 1)))]) ?_ (less_of ⟨⟨_, rfl, rfl⟩, ⟨_, rfl, rfl⟩, trivial⟩)
      refine ev_tr (tr70e ..) ?_
      refine ⟨?_, _, rfl⟩
      show AV.int .i64 _ = _
      congr 1
      omega
theorem r_push_no (hn : 101 ≤ n) (hw : h.get w = some (winB c l d s m)) (hc : WinOk c l d s m) (h1 : min (d + c) 4096 ≤ l) : ∃ k, callX env sums n 53 [.ptr w 0] h = some (.bool false, h.skip k) := by
  obtain ⟨n, rfl⟩ : ∃ k, n = k + 1 := ⟨n - 1, by omega⟩
  have hw' := hw
  unfold winB at hw'
  have ⟨c1, c2, d1, d2, l2, s1, s2, m1, m2⟩ := hc
  obtain ⟨k, hk⟩ := r_free_ok (n := n) (by omega) hw hc
  refine ⟨k, ?_⟩
  refine spec_eq (spec_tr [.ptr w 0] rfl ft53 (by kernel_rfl) (tr53 ..) ?_)
  simp (disch := (first | omega | assumption)) only [go_sem, hw', hk, show max 0 (min (d + c) 4096 - l) = 0 by omega]
theorem r_push_ok (hn : 101 ≤ n) (hw : h.get w = some (winB c l d s m)) (hc : WinOk c l d s m) (h1 : l < min (d + c) 4096) : ∃ k, callX env sums n 53 [.ptr w 0] h = some (.bool true, (h.put w (winB c (l + 1) d s m)).skip k) := by
  obtain ⟨n, rfl⟩ : ∃ k, n = k + 1 := ⟨n - 1, by omega⟩
  have hw' := hw
  unfold winB at hw'
  have ⟨c1, c2, d1, d2, l2, s1, s2, m1, m2⟩ := hc
  obtain ⟨k, hk⟩ := r_free_ok (n := n) (by omega) hw hc
  refine ⟨k, ?_⟩
  refine spec_eq (spec_tr [.ptr w 0] rfl ft53 (by kernel_rfl) (tr53 ..) ?_)
  simp (disch := (first | omega | assumption)) only [go_sem, hw', hk, winB]
/-- a copy -/
theorem copy_ok (hn : 2 ≤ n) (hw : h.get w = some (winB c l d s m)) (hc : WinOk c l d s m) : callX env sums n 52 [.ptr w 0] h = some (.ptr h.n 0, h.new (winB c l d s m)) := by
  obtain ⟨n, rfl⟩ : ∃ k, n = k + 1 := ⟨n - 1, by omega⟩
  have hw' := hw
  unfold winB at hw'
  refine spec_eq (spec_tr [.ptr w 0] rfl ft52 (by kernel_rfl) (tr52 ..) ?_)
  simp (disch := (first | omega | assumption)) only [go_sem, hw', none_ok (n := n) (by omega) hw hc, winB]
/-- both have the same -/
theorem alike_ok {r : Nat} (hn : 101 ≤ n) (hw : h.get w = some (winB c l d s m)) (hr : h.get r = some (winB c l d s m)) (hc : WinOk c l d s m) : ∃ k, callX env sums n 54 [.ptr w 0, .ptr r 0] h = some (.bool true, h.skip k) := by
  obtain ⟨n, rfl⟩ : ∃ k, n = k + 1 := ⟨n - 1, by omega⟩
  have hr' := hr
  unfold winB at hr'
  have ⟨c1, c2, d1, d2, l2, s1, s2, m1, m2⟩ := hc
  suffices hh : ∃ k, W.Spec env sums (n + 1) 54 [.ptr w 0, .ptr r 0] h (fun v h' => v = .bool true ∧ h' = h.skip k) by
    obtain ⟨k, v, h', e, rfl, rfl⟩ := hh
    exact ⟨k, e⟩
  obtain ⟨q, hq⟩ := r_free_ok (n := n) (h := h.skip (56 + 10 + 20)) (by omega) hr hc
  refine ⟨56 + 10 + 20 + q, ?_⟩
  refine spec_tr [.ptr w 0, .ptr r 0] rfl ft54 (by kernel_rfl) (tr54 ..) ?_
  simp (disch := (first | omega | assumption)) only [go_sem, hr', last_ok (h := h.skip 56) (n := n) (by omega) hw hc, done_ok (h := h.skip 56) (n := n) (by omega) hw hc, sent_ok (h := h.skip 56) (n := n) (by omega) hw hc, limit_ok (h := h.skip 56) (n := n) (by omega) hw hc, offer_ok (h := h.skip 56) (n := n) (by omega) hw hc, free_ok (h := h.skip (56 + 10)) (n := n) (by omega) hw hc, hq]
end Go.Proofs.Ytpfgbnmeaalpdaa
