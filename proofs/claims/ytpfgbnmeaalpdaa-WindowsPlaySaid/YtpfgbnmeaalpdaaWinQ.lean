/-
  'WindowsPlay': one turn of the law's run.
-/
import Derived.Test.YtpfgbnmeaalpdaaWinP
namespace Go.Proofs.Ytpfgbnmeaalpdaa
open Go Go.Abs Go.Abs.S Go.Abs.W
set_option maxRecDepth 10000
set_option maxHeartbeats 1000000

section
variable {h : Go.Abs.H} {w : Nat} {c l d s m : Int} {n : Nat}
theorem push_any (hn : 4 ≤ n) (hw : h.get w = some (winB c l d s m)) (hc : WinOk c l d s m) : ∃ b h' l' d' s' m', callX env sums n 44 [.ptr w 0] h = some (.bool b, h') ∧ h'.get w = some (winB c l' d' s' m') ∧ WinOk c l' d' s' m' ∧ Keep h h' [w] := by
  have ⟨c1, c2, d1, d2, l2, s1, s2, m1, m2⟩ := hc
  by_cases hq : l < min (d + c) 4096
  · exact ⟨_, _, l + 1, d, s, m, push_ok hn hw hc hq, get_put_same _ _ _, ⟨c1, c2, d1, by omega, by omega, s1, by omega, m1, m2⟩, ((Keep.refl h _).put (.inr (by simp)) _).skip _⟩
  · exact ⟨_, _, l, d, s, m, push_no hn hw hc (by omega), hw, hc, (Keep.refl h _).skip _⟩
theorem ack_any (hn : 2 ≤ n) (i : Int) (hw : h.get w = some (winB c l d s m)) (hc : WinOk c l d s m) : ∃ b h' l' d' s' m', callX env sums n 37 [.ptr w 0, .int .i64 i] h = some (.bool b, h') ∧ h'.get w = some (winB c l' d' s' m') ∧ WinOk c l' d' s' m' ∧ Keep h h' [w] := by
  have ⟨c1, c2, d1, d2, l2, s1, s2, m1, m2⟩ := hc
  by_cases hq : d < i ∧ i ≤ l
  · exact ⟨_, _, l, i, s, m, ack_ok hn i hw hc hq.1 hq.2, get_put_same _ _ _, ⟨c1, c2, by omega, by omega, by omega, s1, by omega, m1, m2⟩, (Keep.refl h _).put (.inr (by simp)) _⟩
  · exact ⟨_, _, l, d, s, m, ack_no hn i hw hc (by omega), hw, hc, Keep.refl h _⟩
theorem grant_any (hn : 2 ≤ n) (i : Int) (hw : h.get w = some (winB c l d s m)) (hc : WinOk c l d s m) : ∃ h' l' d' s' m', callX env sums n 38 [.ptr w 0, .int .i64 i] h = some (.tup [], h') ∧ h'.get w = some (winB c l' d' s' m') ∧ WinOk c l' d' s' m' ∧ Keep h h' [w] := by
  have ⟨c1, c2, d1, d2, l2, s1, s2, m1, m2⟩ := hc
  exact ⟨_, l, d, s, _, grant_ok hn i hw hc, get_put_same _ _ _, ⟨c1, c2, d1, d2, l2, s1, s2, by omega, by omega⟩, (Keep.refl h _).put (.inr (by simp)) _⟩
theorem next_any (hn : 2 ≤ n) (hw : h.get w = some (winB c l d s m)) (hc : WinOk c l d s m) : ∃ v h' l' d' s' m', callX env sums n 39 [.ptr w 0] h = some (v, h') ∧ h'.get w = some (winB c l' d' s' m') ∧ WinOk c l' d' s' m' ∧ Keep h h' [w] := by
  have ⟨c1, c2, d1, d2, l2, s1, s2, m1, m2⟩ := hc
  by_cases hq : s < min l m
  · exact ⟨_, _, l, d, s + 1, m, next_ok hn hw hc hq, get_put_same _ _ _, ⟨c1, c2, by omega, by omega, by omega, by omega, by omega, m1, m2⟩, ((Keep.refl h _).put (.inr (by simp)) _).skip _⟩
  · exact ⟨_, _, l, d, s, m, next_no hn hw hc (by omega), hw, hc, (Keep.refl h _).skip _⟩
theorem renew_any (hn : 2 ≤ n) (hw : h.get w = some (winB c l d s m)) (hc : WinOk c l d s m) : ∃ h' l' d' s' m', callX env sums n 43 [.ptr w 0] h = some (.tup [], h') ∧ h'.get w = some (winB c l' d' s' m') ∧ WinOk c l' d' s' m' ∧ Keep h h' [w] := by
  have ⟨c1, c2, d1, d2, l2, s1, s2, m1, m2⟩ := hc
  exact ⟨_, l, d, l, 0, renew_ok hn hw hc, get_put_same _ _ _, ⟨c1, c2, d1, d2, l2, by omega, by omega, by omega, by omega⟩, (Keep.refl h _).put (.inr (by simp)) _⟩
end

abbrev Tail8 (F : Nat) (a : AV) (w r : Nat) (i : Int) (b : Bool) (z : Int) (h : Go.Abs.H) (Q : Ex → T SV → Go.Abs.H → Prop) : Prop :=
  EvX env (callX env sums F) F (sub [1,1,1,1,1,0,1,0,0,1,0,0,1,1,1,1] (bodyOf Try.f8)) (frS [(2, .v a), (7, .ptr w 0), (9, .ptr r 0), (11, .int .i64 i), (13, .bool b), (14, .bool b), (15, .int .i64 z), (16, .int .i64 z)]) h Q

/-- behind the switch: both told the same, and have the same -/
theorem tail8 {F : Nat} (hF : 102 ≤ F) {Q : Ex → T SV → Go.Abs.H → Prop} {h : Go.Abs.H} {a : AV} {w r : Nat} {i : Int} {b : Bool} {z : Int} {c l d s m : Int} (hw : h.get w = some (winB c l d s m)) (hr : h.get r = some (winB c l d s m)) (hc : WinOk c l d s m)
    (k : ∀ q, Q .norm (frS [(2, .v a), (7, .ptr w 0), (9, .ptr r 0), (11, .int .i64 i)]) (h.skip q)) : Tail8 F a w r i b z h Q := by
  obtain ⟨q, hq⟩ := alike_ok (n := F) (by omega) hw hr hc
  refine ev_tr (tr8l ..) ?_
  cases b <;>
  · simp (disch := (first | omega | assumption)) only [go_sem, hq]
    exact k q

/-- the switch -/
theorem switch8 {F : Nat} (hF : 102 ≤ F) {Q : Ex → T SV → Go.Abs.H → Prop} {h : Go.Abs.H} {a : AV} {w r x : Nat} {i : Int} {c l d s m kk N : Int} (hw : h.get w = some (winB c l d s m)) (hr : h.get r = some (winB c l d s m)) (hx : h.get x = some (.rows 2 [[.int .u8 kk, .int .i64 N]] false none none))
    (hwr : w ≠ r) (hxw : x ≠ w) (hxr : x ≠ r) (hn1 : w < h.n) (hn2 : r < h.n) (hn3 : x < h.n) (hc : WinOk c l d s m) (h0 : 0 ≤ kk)
    (k : ∀ h' l' d' s' m' b z, h'.get w = some (winB c l' d' s' m') → h'.get r = some (winB c l' d' s' m') → WinOk c l' d' s' m' → Keep h h' [w, r] → Tail8 F a w r i b z h' Q) :
    EvX env (callX env sums F) F (sub [1,1,1,1,1,0,1,0,0,1,0,0,1,1,1,0] (bodyOf Try.f8)) (frS [(2, .v a), (7, .ptr w 0), (9, .ptr r 0), (11, .int .i64 i), (12, .ptr x 0), (13, .bool false), (14, .bool false), (15, .int .i64 0), (16, .int .i64 0)]) h fun e f h => match e with
      | .norm => EvX env (callX env sums F) F (sub [1,1,1,1,1,0,1,0,0,1,0,0,1,1,1,1] (bodyOf Try.f8)) f h Q
      | .exit j => Q (.exit j) f h
      | .ret => Q .ret f h := by
  have ⟨c1, c2, d1, d2, l2, s1, s2, m1, m2⟩ := hc
  have hm : kk.tmod 13 = kk % 13 := Int.tmod_eq_emod_of_nonneg h0
  have hr' := hr
  unfold winB at hr'
  have hrw : r ≠ w := fun e => hwr e.symm
  have gw : ∀ x, (h.put w x).get w = some x := fun x => get_put_same _ _ _
  have gr : ∀ x, (h.put w x).get r = some (winB c l d s m) := fun x => by rw [get_put_ne _ _ _ _ hrw, hr]
  have gr' : ∀ x, (h.put w x).get r = some (.rows 5 [[.int .i64 c, .int .i64 l, .int .i64 d, .int .i64 s, .int .i64 m]] false none none) := gr
  have gx : ∀ y, (h.put w y).get x = some (.rows 2 [[.int .u8 kk, .int .i64 N]] false none none) := fun y => by rw [get_put_ne _ _ _ _ hxw, hx]
  have kw : ∀ x, Keep h (h.put w x) [w, r] := fun x => (Keep.refl h _).put (.inr (by simp)) x
  have both : ∀ (l' d' s' m' : Int) (b : Bool) (z : Int) (k1 k2 : Nat), WinOk c l' d' s' m' → Tail8 F a w r i b z ((((h.put w (winB c l' d' s' m')).skip k1).put r (winB c l' d' s' m')).skip k2) Q := fun l' d' s' m' b z k1 k2 ok =>
    k _ l' d' s' m' b z (by rw [skip_get, get_put_ne _ _ _ _ hwr, skip_get, get_put_same]) (by rw [skip_get, get_put_same]) ok ((((kw _).skip _).put (.inr (by simp)) _).skip _)
  refine ev_tr (tr8k ..) ?_
  by_cases e3 : kk % 13 = 3
  · by_cases hq : d < N ∧ N ≤ l
    · simp (disch := (first | omega | assumption)) only [go_sem, hx, hm, e3, ack_ok (h := h.skip 10) (n := F) (by omega) N hw hc hq.1 hq.2, r_ack_ok (h := (h.put w (winB c l N s m)).skip 10) (w := r) (n := F) (by omega) N (gr _) hc hq.1 hq.2, gx]
      exact both l N s m true 0 10 0 ⟨c1, c2, by omega, by omega, l2, s1, s2, m1, m2⟩
    · simp (disch := (first | omega | assumption)) only [go_sem, hx, hm, e3, ack_no (h := h.skip 10) (n := F) (by omega) N hw hc (by omega), r_ack_no (h := h.skip 10) (w := r) (n := F) (by omega) N hr hc (by omega)]
      exact k (h.skip 10) l d s m false 0 hw hr hc ((Keep.refl h _).skip _)
  by_cases e4 : kk % 13 = 4
  · have ok : WinOk c l d s (max m (min N 4112)) := ⟨c1, c2, d1, d2, l2, s1, s2, by omega, by omega⟩
    obtain ⟨h', e1, g1, k1⟩ := r_grant_ok (h := h.put w (winB c l d s (max m (min N 4112)))) (w := r) (n := F) (by omega) N (gr _) hc
    simp (disch := (first | omega | assumption)) only [go_sem, hx, hm, e4, grant_ok (n := F) (by omega) N hw hc, gx, e1]
    exact k h' l d s _ false 0 (by rw [k1.2 w hn1 (by simpa using hwr)]; exact gw _) g1 ok (((kw _).trans (k1.mono (by simp))))
  by_cases e5 : kk % 13 = 5 ∨ kk % 13 = 6 ∨ kk % 13 = 7
  · by_cases hq : s < min l m
    · rcases e5 with e | e | e <;>
      · simp (disch := (first | omega | assumption)) only [go_sem, hx, hm, e, next_ok (n := F) (by omega) hw hc hq, r_next_ok (h := (h.put w (winB c l d (s + 1) m)).skip 18) (w := r) (n := F) (by omega) (gr _) hc hq]
        exact both l d (s + 1) m true (s + 1) 18 20 ⟨c1, c2, d1, d2, l2, by omega, by omega, m1, m2⟩
    · rcases e5 with e | e | e <;>
      · simp (disch := (first | omega | assumption)) only [go_sem, hx, hm, e, next_no (n := F) (by omega) hw hc (by omega), r_next_no (h := h.skip 18) (w := r) (n := F) (by omega) hr hc (by omega)]
        exact k (h.skip (18 + 20)) l d s m false 0 hw hr hc ((Keep.refl h _).skip _)
  by_cases e6 : kk % 13 = 8
  · simp (disch := (first | omega | assumption)) only [go_sem, hx, hm, e6, back_ok (n := F) (by omega) N hw hc, r_back_ok (h := h.put w (winB c l d (max (min N l) 0) m)) (w := r) (n := F) (by omega) N (gr _) hc, gx]
    exact both l d (max (min N l) 0) m false 0 0 0 ⟨c1, c2, d1, d2, l2, by omega, by omega, m1, m2⟩
  by_cases e7 : kk % 13 = 9
  · simp (disch := (first | omega | assumption)) only [go_sem, hx, hm, e7, renew_ok (n := F) (by omega) hw hc, r_renew_ok (h := h.put w (winB c l d l 0)) (w := r) (n := F) (by omega) (gr _) hc]
    exact both l d l 0 false 0 0 0 ⟨c1, c2, d1, d2, l2, by omega, by omega, by omega, by omega⟩
  by_cases e8 : kk % 13 = 10
  · by_cases hq : d + 1 ≤ l
    · simp (disch := (first | omega | assumption)) only [go_sem, hx, hr', hm, e8, ack_ok (n := F) (by omega) (d + 1) hw hc (by omega) hq, gr', r_ack_ok (h := h.put w (winB c l (d + 1) s m)) (w := r) (n := F) (by omega) (d + 1) (gr _) hc (by omega) hq]
      exact both l (d + 1) s m true 0 0 0 ⟨c1, c2, by omega, by omega, l2, s1, s2, m1, m2⟩
    · simp (disch := (first | omega | assumption)) only [go_sem, hx, hr', hm, e8, ack_no (n := F) (by omega) (d + 1) hw hc (by omega), r_ack_no (w := r) (n := F) (by omega) (d + 1) hr hc (by omega)]
      exact k h l d s m false 0 hw hr hc (Keep.refl h _)
  by_cases e9 : kk % 13 = 11
  · have ok : WinOk c l d s (max m (min (l + 2) 4112)) := ⟨c1, c2, d1, d2, l2, s1, s2, by omega, by omega⟩
    obtain ⟨h', e1, g1, k1⟩ := r_grant_ok (h := h.put w (winB c l d s (max m (min (l + 2) 4112)))) (w := r) (n := F) (by omega) (l + 2) (gr _) hc
    simp (disch := (first | omega | assumption)) only [go_sem, hx, hr', hm, e9, grant_ok (n := F) (by omega) (l + 2) hw hc, gr', e1]
    exact k h' l d s _ false 0 (by rw [k1.2 w hn1 (by simpa using hwr)]; exact gw _) g1 ok (((kw _).trans (k1.mono (by simp))))
  by_cases e10 : kk % 13 = 12
  · obtain ⟨b1, q1, y1, y2, y3, y4, a1, a2, a3, a4⟩ := push_any (h := h.new (winB c l d s m)) (n := F) (by omega) (get_new_same _ _) hc
    obtain ⟨b2, q2, z1, z2, z3, z4, a5, a6, a7, a8⟩ := ack_any (n := F) (by omega) N a2 a3
    obtain ⟨q3, x1, x2, x3, x4, a9, a10, a11, a12⟩ := grant_any (n := F) (by omega) N a6 a7
    obtain ⟨v4, q4, t1, t2, t3, t4, a13, a14, a15, a16⟩ := next_any (n := F) (by omega) a10 a11
    obtain ⟨q5, u1, u2, u3, u4, a17, a18, a19, a20⟩ := renew_any (n := F) (by omega) a14 a15
    have k1 : Keep h q1 [] := ⟨by have := a4.1; rw [hn_new] at this; omega, fun b hb _ => by rw [a4.2 b (by rw [hn_new]; omega) (by simp; omega), get_new_ne _ _ _ (by omega)]⟩
    have kn : ∀ p p', Keep h p [] → Keep p p' [h.n] → Keep h p' [] := fun p p' x y => ⟨Nat.le_trans x.1 y.1, fun b hb _ => by rw [y.2 b (by have := x.1; omega) (by simp; omega), x.2 b hb (by simp)]⟩
    have k2 := kn _ _ k1 a8
    have k3 := kn _ _ k2 a12
    have k4 := kn _ _ k3 a16
    have k5 := kn _ _ k4 a20
    have x1 : q1.get x = some (.rows 2 [[.int .u8 kk, .int .i64 N]] false none none) := by rw [k1.2 x hn3 (by simp), hx]
    have x2 : q2.get x = some (.rows 2 [[.int .u8 kk, .int .i64 N]] false none none) := by rw [k2.2 x hn3 (by simp), hx]
    simp (disch := (first | omega | assumption)) only [go_sem, hx, hm, e10, copy_ok (n := F) (by omega) hw hc, a1, a5, a9, a13, a17, x1, x2]
    exact k q5 l d s m false 0 (by rw [k5.2 w hn1 (by simp), hw]) (by rw [k5.2 r hn2 (by simp), hr]) hc (k5.mono (by simp))
  · by_cases hq : l < min (d + c) 4096
    · obtain ⟨q, e1⟩ := r_push_ok (h := (h.put w (winB c (l + 1) d s m)).skip 20) (w := r) (n := F) (by omega) (gr _) hc hq
      simp (disch := (first | omega | assumption)) only [go_sem, hx, hm, push_ok (n := F) (by omega) hw hc hq, e1]
      exact both (l + 1) d s m true 0 0 (20 + q) ⟨c1, c2, by omega, by omega, by omega, s1, by omega, m1, m2⟩
    · obtain ⟨q, e1⟩ := r_push_no (h := h.skip 20) (w := r) (n := F) (by omega) hr hc (by omega)
      simp (disch := (first | omega | assumption)) only [go_sem, hx, hm, push_no (n := F) (by omega) hw hc (by omega), e1]
      exact k (h.skip (20 + q)) l d s m false 0 hw hr hc ((Keep.refl h _).skip _)
end Go.Proofs.Ytpfgbnmeaalpdaa
