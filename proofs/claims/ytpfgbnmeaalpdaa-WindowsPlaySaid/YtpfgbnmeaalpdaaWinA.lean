/-
  Windows: what each of the program's functions does.
-/
import Derived.Test.YtpfgbnmeaalpdaaAbsA
import Derived.Test.YtpfgbnmeaalpdaaTw
import Derived.Test.YtpfgbnmeaalpdaaSum
namespace Go.Proofs.Ytpfgbnmeaalpdaa
open Go Go.Abs Go.Abs.S Go.Abs.W
set_option maxRecDepth 10000

theorem eqn82 (b o : Nat) : binop env .eql 82 (.ptr b o) .nilp = some (.bool false) := by kernel_rfl

/-- a window's cells -/
def winB (c l d s m : Int) : Blk := .rows 5 [[.int .i64 c, .int .i64 l, .int .i64 d, .int .i64 s, .int .i64 m]] false none none

/-- what holds of a window's numbers -/
structure WinOk (c l d s m : Int) : Prop where
  c1 : 1 ≤ c
  c2 : c ≤ 16
  d1 : 0 ≤ d
  d2 : d ≤ l
  l2 : l ≤ 4096
  s1 : 0 ≤ s
  s2 : s ≤ l
  m1 : 0 ≤ m
  m2 : m ≤ 4112

variable {h : Go.Abs.H} {w : Nat} {c l d s m : Int} {n : Nat}

theorem none_ok (hn : 1 ≤ n) (hw : h.get w = some (winB c l d s m)) (hc : WinOk c l d s m) : callX env sums n 69 [.ptr w 0] h = some (.bool false, h) := by
  obtain ⟨n, rfl⟩ : ∃ k, n = k + 1 := ⟨n - 1, by omega⟩
  unfold winB at hw
  have ⟨c1, c2, d1, d2, l2, s1, s2, m1, m2⟩ := hc
  refine spec_eq (spec_tr [.ptr w 0] rfl ft69 (by kernel_rfl) (tr69 ..) ?_)
  simp (disch := (first | omega | assumption)) only [go_sem, eqn82, hw]
theorem done_ok (hn : 2 ≤ n) (hw : h.get w = some (winB c l d s m)) (hc : WinOk c l d s m) : callX env sums n 35 [.ptr w 0] h = some (.int .i64 d, h) := by
  obtain ⟨n, rfl⟩ : ∃ k, n = k + 1 := ⟨n - 1, by omega⟩
  have hw' := hw
  unfold winB at hw'
  refine spec_eq (spec_tr [.ptr w 0] rfl ft35 (by kernel_rfl) (tr35 ..) ?_)
  simp (disch := (first | omega | assumption)) only [go_sem, hw', none_ok (n := n) (by omega) hw hc]
theorem last_ok (hn : 2 ≤ n) (hw : h.get w = some (winB c l d s m)) (hc : WinOk c l d s m) : callX env sums n 36 [.ptr w 0] h = some (.int .i64 l, h) := by
  obtain ⟨n, rfl⟩ : ∃ k, n = k + 1 := ⟨n - 1, by omega⟩
  have hw' := hw
  unfold winB at hw'
  refine spec_eq (spec_tr [.ptr w 0] rfl ft36 (by kernel_rfl) (tr36 ..) ?_)
  simp (disch := (first | omega | assumption)) only [go_sem, hw', none_ok (n := n) (by omega) hw hc]
theorem limit_ok (hn : 2 ≤ n) (hw : h.get w = some (winB c l d s m)) (hc : WinOk c l d s m) : callX env sums n 40 [.ptr w 0] h = some (.int .i64 m, h) := by
  obtain ⟨n, rfl⟩ : ∃ k, n = k + 1 := ⟨n - 1, by omega⟩
  have hw' := hw
  unfold winB at hw'
  refine spec_eq (spec_tr [.ptr w 0] rfl ft40 (by kernel_rfl) (tr40 ..) ?_)
  simp (disch := (first | omega | assumption)) only [go_sem, hw', none_ok (n := n) (by omega) hw hc]
theorem sent_ok (hn : 2 ≤ n) (hw : h.get w = some (winB c l d s m)) (hc : WinOk c l d s m) : callX env sums n 41 [.ptr w 0] h = some (.int .i64 s, h) := by
  obtain ⟨n, rfl⟩ : ∃ k, n = k + 1 := ⟨n - 1, by omega⟩
  have hw' := hw
  unfold winB at hw'
  refine spec_eq (spec_tr [.ptr w 0] rfl ft41 (by kernel_rfl) (tr41 ..) ?_)
  simp (disch := (first | omega | assumption)) only [go_sem, hw', none_ok (n := n) (by omega) hw hc]
theorem offer_ok (hn : 2 ≤ n) (hw : h.get w = some (winB c l d s m)) (hc : WinOk c l d s m) : callX env sums n 68 [.ptr w 0] h = some (.int .i64 (d + c), h.skip 10) := by
  obtain ⟨n, rfl⟩ : ∃ k, n = k + 1 := ⟨n - 1, by omega⟩
  have hw' := hw
  unfold winB at hw'
  have ⟨c1, c2, d1, d2, l2, s1, s2, m1, m2⟩ := hc
  refine spec_eq (spec_tr [.ptr w 0] rfl ft68 (by kernel_rfl) (tr68 ..) ?_)
  simp (disch := (first | omega | assumption)) only [go_sem, hw', none_ok (n := n) (by omega) hw hc]
theorem free_ok (hn : 3 ≤ n) (hw : h.get w = some (winB c l d s m)) (hc : WinOk c l d s m) : callX env sums n 45 [.ptr w 0] h = some (.int .i64 (max 0 (min (d + c) 4096 - l)), h.skip 20) := by
  obtain ⟨n, rfl⟩ : ∃ k, n = k + 1 := ⟨n - 1, by omega⟩
  have hw' := hw
  unfold winB at hw'
  have ⟨c1, c2, d1, d2, l2, s1, s2, m1, m2⟩ := hc
  refine spec_eq (spec_tr [.ptr w 0] rfl ft45 (by kernel_rfl) (tr45 ..) ?_)
  simp (disch := (first | omega | assumption)) only [go_sem, hw', none_ok (n := n) (by omega) hw hc, offer_ok (h := h.skip 10) (n := n) (by omega) hw hc]
theorem ack_ok (hn : 2 ≤ n) (i : Int) (hw : h.get w = some (winB c l d s m)) (hc : WinOk c l d s m) (h1 : d < i) (h2 : i ≤ l) : callX env sums n 37 [.ptr w 0, .int .i64 i] h = some (.bool true, h.put w (winB c l i s m)) := by
  obtain ⟨n, rfl⟩ : ∃ k, n = k + 1 := ⟨n - 1, by omega⟩
  have hw' := hw
  unfold winB at hw'
  have ⟨c1, c2, d1, d2, l2, s1, s2, m1, m2⟩ := hc
  refine spec_eq (spec_tr [.ptr w 0, .int .i64 i] rfl ft37 (by kernel_rfl) (tr37 ..) ?_)
  simp (disch := (first | omega | assumption)) only [go_sem, hw', none_ok (n := n) (by omega) hw hc, winB]
theorem grant_ok (hn : 2 ≤ n) (i : Int) (hw : h.get w = some (winB c l d s m)) (hc : WinOk c l d s m) : callX env sums n 38 [.ptr w 0, .int .i64 i] h = some (.tup [], h.put w (winB c l d s (max m (min i 4112)))) := by
  obtain ⟨n, rfl⟩ : ∃ k, n = k + 1 := ⟨n - 1, by omega⟩
  have hw' := hw
  unfold winB at hw'
  have ⟨c1, c2, d1, d2, l2, s1, s2, m1, m2⟩ := hc
  refine spec_eq (spec_tr [.ptr w 0, .int .i64 i] rfl ft38 (by kernel_rfl) (tr38 ..) ?_)
  simp (disch := (first | omega | assumption)) only [go_sem, hw', none_ok (n := n) (by omega) hw hc, winB]
theorem back_ok (hn : 2 ≤ n) (i : Int) (hw : h.get w = some (winB c l d s m)) (hc : WinOk c l d s m) : callX env sums n 42 [.ptr w 0, .int .i64 i] h = some (.tup [], h.put w (winB c l d (max (min i l) 0) m)) := by
  obtain ⟨n, rfl⟩ : ∃ k, n = k + 1 := ⟨n - 1, by omega⟩
  have hw' := hw
  unfold winB at hw'
  have ⟨c1, c2, d1, d2, l2, s1, s2, m1, m2⟩ := hc
  refine spec_eq (spec_tr [.ptr w 0, .int .i64 i] rfl ft42 (by kernel_rfl) (tr42 ..) ?_)
  simp (disch := (first | omega | assumption)) only [go_sem, hw', none_ok (n := n) (by omega) hw hc, winB]
theorem renew_ok (hn : 2 ≤ n) (hw : h.get w = some (winB c l d s m)) (hc : WinOk c l d s m) : callX env sums n 43 [.ptr w 0] h = some (.tup [], h.put w (winB c l d l 0)) := by
  obtain ⟨n, rfl⟩ : ∃ k, n = k + 1 := ⟨n - 1, by omega⟩
  have hw' := hw
  unfold winB at hw'
  have ⟨c1, c2, d1, d2, l2, s1, s2, m1, m2⟩ := hc
  refine spec_eq (spec_tr [.ptr w 0] rfl ft43 (by kernel_rfl) (tr43 ..) ?_)
  simp (disch := (first | omega | assumption)) only [go_sem, hw', none_ok (n := n) (by omega) hw hc, winB]
theorem next_no (hn : 2 ≤ n) (hw : h.get w = some (winB c l d s m)) (hc : WinOk c l d s m) (h1 : min l m ≤ s) : callX env sums n 39 [.ptr w 0] h = some (.tup [.int .i64 0, .bool false], h.skip 18) := by
  obtain ⟨n, rfl⟩ : ∃ k, n = k + 1 := ⟨n - 1, by omega⟩
  have hw' := hw
  unfold winB at hw'
  have ⟨c1, c2, d1, d2, l2, s1, s2, m1, m2⟩ := hc
  refine spec_eq (spec_tr [.ptr w 0] rfl ft39 (by kernel_rfl) (tr39 ..) ?_)
  simp (disch := (first | omega | assumption)) only [go_sem, hw', none_ok (h := h.skip 18) (n := n) (by omega) hw hc, winB]
theorem next_ok (hn : 2 ≤ n) (hw : h.get w = some (winB c l d s m)) (hc : WinOk c l d s m) (h1 : s < min l m) : callX env sums n 39 [.ptr w 0] h = some (.tup [.int .i64 (s + 1), .bool true], (h.put w (winB c l d (s + 1) m)).skip 18) := by
  obtain ⟨n, rfl⟩ : ∃ k, n = k + 1 := ⟨n - 1, by omega⟩
  have hw' := hw
  unfold winB at hw'
  have ⟨c1, c2, d1, d2, l2, s1, s2, m1, m2⟩ := hc
  refine spec_eq (spec_tr [.ptr w 0] rfl ft39 (by kernel_rfl) (tr39 ..) ?_)
  simp (disch := (first | omega | assumption)) only [go_sem, hw', none_ok (h := h.skip 18) (n := n) (by omega) hw hc, winB]
theorem push_no (hn : 4 ≤ n) (hw : h.get w = some (winB c l d s m)) (hc : WinOk c l d s m) (h1 : min (d + c) 4096 ≤ l) : callX env sums n 44 [.ptr w 0] h = some (.bool false, h.skip 20) := by
  obtain ⟨n, rfl⟩ : ∃ k, n = k + 1 := ⟨n - 1, by omega⟩
  have hw' := hw
  unfold winB at hw'
  have ⟨c1, c2, d1, d2, l2, s1, s2, m1, m2⟩ := hc
  refine spec_eq (spec_tr [.ptr w 0] rfl ft44 (by kernel_rfl) (tr44 ..) ?_)
  simp (disch := (first | omega | assumption)) only [go_sem, hw', free_ok (n := n) (by omega) hw hc, winB, show max 0 (min (d + c) 4096 - l) = 0 by omega]
theorem push_ok (hn : 4 ≤ n) (hw : h.get w = some (winB c l d s m)) (hc : WinOk c l d s m) (h1 : l < min (d + c) 4096) : callX env sums n 44 [.ptr w 0] h = some (.bool true, (h.put w (winB c (l + 1) d s m)).skip 20) := by
  obtain ⟨n, rfl⟩ : ∃ k, n = k + 1 := ⟨n - 1, by omega⟩
  have hw' := hw
  unfold winB at hw'
  have ⟨c1, c2, d1, d2, l2, s1, s2, m1, m2⟩ := hc
  refine spec_eq (spec_tr [.ptr w 0] rfl ft44 (by kernel_rfl) (tr44 ..) ?_)
  simp (disch := (first | omega | assumption)) only [go_sem, hw', free_ok (n := n) (by omega) hw hc, winB]
theorem ack_no (hn : 2 ≤ n) (i : Int) (hw : h.get w = some (winB c l d s m)) (hc : WinOk c l d s m) (h1 : i ≤ d ∨ l < i) : callX env sums n 37 [.ptr w 0, .int .i64 i] h = some (.bool false, h) := by
  obtain ⟨n, rfl⟩ : ∃ k, n = k + 1 := ⟨n - 1, by omega⟩
  have hw' := hw
  unfold winB at hw'
  have ⟨c1, c2, d1, d2, l2, s1, s2, m1, m2⟩ := hc
  refine spec_eq (spec_tr [.ptr w 0, .int .i64 i] rfl ft37 (by kernel_rfl) (tr37 ..) ?_)
  by_cases hd : i ≤ d
  · simp (disch := (first | omega | assumption)) only [go_sem, hw', none_ok (n := n) (by omega) hw hc]
  · simp (disch := (first | omega | assumption)) only [go_sem, hw', none_ok (n := n) (by omega) hw hc]
end Go.Proofs.Ytpfgbnmeaalpdaa
