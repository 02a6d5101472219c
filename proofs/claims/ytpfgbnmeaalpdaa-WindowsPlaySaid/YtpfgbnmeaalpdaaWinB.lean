/-
  'WindowsBounds': the law's run, whatever is handed in.
-/
import Derived.Test.YtpfgbnmeaalpdaaWinA
import Derived.Test.YtpfgbnmeaalpdaaTb
namespace Go.Proofs.Ytpfgbnmeaalpdaa
open Go Go.Abs Go.Abs.S Go.Abs.W
set_option maxRecDepth 10000
set_option maxHeartbeats 1000000

theorem new_ok {h : Go.Abs.H} {n : Nat} (hn : 1 ≤ n) (c l d : Int) (h1 : 1 ≤ c) (h2 : c ≤ 16) (h3 : 0 ≤ d) (h4 : d ≤ l) (h5 : l ≤ 4096) : callX env sums n 34 [.int .i64 c, .int .i64 l, .int .i64 d] h = some (.tup [.ptr h.n 0, .int .i64 0], h.new (winB c l d l 0)) := by
  obtain ⟨n, rfl⟩ : ∃ k, n = k + 1 := ⟨n - 1, by omega⟩
  refine spec_eq (spec_tr [.int .i64 c, .int .i64 l, .int .i64 d] rfl ft34 (by kernel_rfl) (tr34 ..) ?_)
  simp (disch := (first | omega | assumption)) only [go_sem, winB]

/-- behind the switch: what has come of the window -/
theorem tail7 {F : Nat} (hF : 10 ≤ F) {Q : Ex → T SV → Go.Abs.H → Prop} {h : Go.Abs.H} {a : AV} {w : Nat} {i : Nat} {c l d s m l0 d0 : Int} (hw : h.get w = some (winB c l d s m)) (hc : WinOk c l d s m) (h1 : d0 ≤ d) (h2 : l0 ≤ l) (h3 : l - d ≤ c) (h4 : l ≤ 2000)
    (k : Q .norm (frS [(1, .v a), (5, .int .i64 c), (6, .ptr w 0), (8, .int .i64 i)]) (h.skip 20)) :
    EvX env (callX env sums F) F (sub [1,1,1,1,1,0,1,0,0,1,0,0,1,1,1] (bodyOf Try.f7)) (frS [(1, .v a), (5, .int .i64 c), (6, .ptr w 0), (8, .int .i64 i), (10, .int .i64 d0), (11, .int .i64 l0)]) h Q := by
  have ⟨c1, c2, d1, d2, l2, s1, s2, m1, m2⟩ := hc
  refine ev_tr (tr7k ..) ?_
  simp (disch := (first | omega | assumption)) only [go_sem, done_ok (h := h) (n := F) (by omega) hw hc, last_ok (h := h) (n := F) (by omega) hw hc, sent_ok (h := h) (n := F) (by omega) hw hc, free_ok (h := h) (n := F) (by omega) hw hc, done_ok (h := h.skip 20) (n := F) (by omega) hw hc, last_ok (h := h.skip 20) (n := F) (by omega) hw hc, show max 0 (min (d + c) 4096 - l) = c - (l - d) by omega]
  exact k


/-- what has come of a window in one turn -/
structure Turn (c l0 d0 : Int) (l d s m : Int) : Prop where
  ok : WinOk c l d s m
  d1 : d0 ≤ d
  l1 : l0 ≤ l
  l2 : l ≤ l0 + 1
  f : l - d ≤ c

/-- the switch -/
theorem switch7 {F : Nat} (hF : 10 ≤ F) {Q : Ex → T SV → Go.Abs.H → Prop} {h : Go.Abs.H} {a : AV} {w x : Nat} {i : Nat} {c l d s m kk N : Int} (hw : h.get w = some (winB c l d s m)) (hx : h.get x = some (.rows 2 [[.int .u8 kk, .int .i64 N]] false none none))
    (hc : WinOk c l d s m) (h0 : 0 ≤ kk) (h3 : l - d ≤ c) (h4 : l ≤ 1000)
    (k : ∀ h' l' d' s' m', h'.get w = some (winB c l' d' s' m') → Turn c l d l' d' s' m' → Keep h h' [w] → EvX env (callX env sums F) F (sub [1,1,1,1,1,0,1,0,0,1,0,0,1,1,1] (bodyOf Try.f7)) (frS [(1, .v a), (5, .int .i64 c), (6, .ptr w 0), (8, .int .i64 i), (10, .int .i64 d), (11, .int .i64 l)]) h' Q) :
    EvX env (callX env sums F) F (sub [1,1,1,1,1,0,1,0,0,1,0,0,1,1,0] (bodyOf Try.f7)) (frS [(1, .v a), (5, .int .i64 c), (6, .ptr w 0), (8, .int .i64 i), (9, .ptr x 0), (10, .int .i64 d), (11, .int .i64 l)]) h fun e f h => match e with
      | .norm => EvX env (callX env sums F) F (sub [1,1,1,1,1,0,1,0,0,1,0,0,1,1,1] (bodyOf Try.f7)) f h Q
      | .exit j => Q (.exit j) f h
      | .ret => Q .ret f h := by
  have ⟨c1, c2, d1, d2, l2, s1, s2, m1, m2⟩ := hc
  have hm : kk.tmod 13 = kk % 13 := Int.tmod_eq_emod_of_nonneg h0
  have hput : ∀ x, (h.put w x).get w = some x := fun x => get_put_same _ _ _
  have kp : ∀ x, Keep h (h.put w x) [w] := fun x => (Keep.refl h _).put (.inr (by simp)) x
  refine ev_tr (tr7j ..) ?_
  -- Push
  by_cases e1 : kk % 13 = 3 ∨ kk % 13 = 10
  · -- Ack, twice
    have fin : ∀ d1', d ≤ d1' → d1' ≤ l → ∀ h1, (h1 = h ∧ d1' = d ∨ h1 = h.put w (winB c l d1' s m)) → on2 (callX env sums F 37 [.ptr w 0, .int .i64 (d + 1)] h1) fun v h2 => onB (some v) fun _ => EvX env (callX env sums F) F (sub [1,1,1,1,1,0,1,0,0,1,0,0,1,1,1] (bodyOf Try.f7)) (frS [(1, .v a), (5, .int .i64 c), (6, .ptr w 0), (8, .int .i64 i), (10, .int .i64 d), (11, .int .i64 l)]) h2 Q := by
      intro dd hd1 hd2 h1 hh
      have ok1 : WinOk c l dd s m := ⟨c1, c2, by omega, hd2, l2, s1, s2, m1, m2⟩
      have g1 : h1.get w = some (winB c l dd s m) := by rcases hh with ⟨rfl, rfl⟩ | rfl; exact hw; exact hput _
      have kp1 : Keep h h1 [w] := by rcases hh with ⟨rfl, rfl⟩ | rfl; exact Keep.refl _ _; exact kp _
      by_cases hq : dd < d + 1 ∧ d + 1 ≤ l
      · rw [ack_ok (n := F) (by omega) (d + 1) g1 ok1 hq.1 hq.2, on2_some, onB_some]
        exact k _ l (d + 1) s m (get_put_same _ _ _) ⟨⟨c1, c2, by omega, by omega, l2, s1, s2, m1, m2⟩, by omega, by omega, by omega, by omega⟩ (kp1.put (.inr (by simp)) _)
      · rw [ack_no (n := F) (by omega) (d + 1) g1 ok1 (by omega), on2_some, onB_some]
        exact k _ l dd s m g1 ⟨ok1, by omega, by omega, by omega, by omega⟩ kp1
    by_cases hq : d < N ∧ N ≤ l
    · rcases e1 with e | e <;>
      · simp (disch := (first | omega | assumption)) only [go_sem, hx, hm, e, ack_ok (n := F) (by omega) N hw hc hq.1 hq.2]
        exact fin N (by omega) hq.2 _ (.inr rfl)
    · rcases e1 with e | e <;>
      · simp (disch := (first | omega | assumption)) only [go_sem, hx, hm, e, ack_no (n := F) (by omega) N hw hc (by omega)]
        exact fin d (by omega) d2 _ (.inl ⟨rfl, rfl⟩)
  by_cases e2 : kk % 13 = 4 ∨ kk % 13 = 11
  · have okg : ∀ g, 0 ≤ g → g ≤ 4112 → WinOk c l d s g := fun g a b => ⟨c1, c2, d1, d2, l2, s1, s2, a, b⟩
    rcases e2 with e | e <;>
    · simp (disch := (first | omega | assumption)) only [go_sem, hx, hm, e, grant_ok (n := F) (by omega) N hw hc, grant_ok (h := h.put w (winB c l d s (max m (min N 4112)))) (n := F) (by omega) (l + 1) (hput _) (okg _ (by omega) (by omega))]
      exact k _ l d s _ (get_put_same _ _ _) ⟨okg _ (by omega) (by omega), by omega, by omega, by omega, by omega⟩ (kp _)
  by_cases e3 : kk % 13 = 5 ∨ kk % 13 = 6 ∨ kk % 13 = 7
  · by_cases hq : s < min l m
    · have ok1 : WinOk c l d (s + 1) m := ⟨c1, c2, d1, d2, l2, by omega, by omega, m1, m2⟩
      rcases e3 with e | e | e <;>
      · simp (disch := (first | omega | assumption)) only [go_sem, hx, hm, e, next_ok (n := F) (by omega) hw hc hq, limit_ok (h := (h.put w (winB c l d (s + 1) m)).skip 18) (n := F) (by omega) (hput _) ok1]
        exact k _ l d (s + 1) m (hput _) ⟨ok1, by omega, by omega, by omega, by omega⟩ ((kp _).skip _)
    · rcases e3 with e | e | e <;>
      · simp (disch := (first | omega | assumption)) only [go_sem, hx, hm, e, next_no (n := F) (by omega) hw hc (by omega), sent_ok (h := h.skip 18) (n := F) (by omega) hw hc, limit_ok (h := h.skip 18) (n := F) (by omega) hw hc]
        exact k (h.skip 18) l d s m hw ⟨hc, by omega, by omega, by omega, by omega⟩ ((Keep.refl _ _).skip _)
  by_cases e4 : kk % 13 = 8
  · simp (disch := (first | omega | assumption)) only [go_sem, hx, hm, e4, back_ok (n := F) (by omega) N hw hc]
    exact k _ l d _ m (hput _) ⟨⟨c1, c2, d1, d2, l2, by omega, by omega, m1, m2⟩, by omega, by omega, by omega, by omega⟩ (kp _)
  by_cases e5 : kk % 13 = 9
  · simp (disch := (first | omega | assumption)) only [go_sem, hx, hm, e5, renew_ok (n := F) (by omega) hw hc]
    exact k _ l d _ 0 (hput _) ⟨⟨c1, c2, d1, d2, l2, by omega, by omega, by omega, by omega⟩, by omega, by omega, by omega, by omega⟩ (kp _)
  · by_cases hq : l - d < c
    · simp (disch := (first | omega | assumption)) only [go_sem, hx, hm, push_ok (n := F) (by omega) hw hc (by omega)]
      exact k ((h.put w (winB c (l + 1) d s m)).skip 20) (l + 1) d s m (hput _) ⟨⟨c1, c2, d1, by omega, by omega, s1, by omega, m1, m2⟩, by omega, by omega, by omega, by omega⟩ ((kp _).skip _)
    · simp (disch := (first | omega | assumption)) only [go_sem, hx, hm, push_no (n := F) (by omega) hw hc (by omega)]
      exact k (h.skip 20) l d s m hw ⟨hc, by omega, by omega, by omega, by omega⟩ ((Keep.refl _ _).skip _)


end Go.Proofs.Ytpfgbnmeaalpdaa
