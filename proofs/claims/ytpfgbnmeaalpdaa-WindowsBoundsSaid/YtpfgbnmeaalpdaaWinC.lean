/-
  'WindowsBounds': the law's run, whatever is handed in (2).
-/
import Derived.Test.YtpfgbnmeaalpdaaWinB
namespace Go.Proofs.Ytpfgbnmeaalpdaa
open Go Go.Abs Go.Abs.S Go.Abs.W
set_option maxRecDepth 10000
set_option maxHeartbeats 1000000

theorem ft7 : env.ft.get 7 = some Try.f7 := by kernel_rfl
theorem shape5 : shapeOf Try.prog 9 5 = some [.int .u8] := by kernel_rfl
theorem shape81 : shapeOf Try.prog 9 81 = some [.sl 2 [.int .u8, .int .i64]] := by kernel_rfl
theorem agg5 : aggT Try.prog 5 = false := by kernel_rfl
theorem agg81 : aggT Try.prog 81 = false := by kernel_rfl
theorem pars7 : Try.f7.params.toList = [5, 81] := by kernel_rfl
theorem end7 (p : Pr) (K : AV → Go.Abs.H → Prop) (h : Go.Abs.H) (c : Bool) (s : SV) (n : Int) : endQ p env Try.f7.results.toList K .ret (frS [(0, .int .u8 n), (1, s), (4, .bool c)]) h = K (.bool c) h := by kernel_rfl
theorem end7' (p : Pr) (K : AV → Go.Abs.H → Prop) (h : Go.Abs.H) (c : Bool) : endQ p env Try.f7.results.toList K .ret (frS [(4, .bool c)]) h = K (.bool c) h := by kernel_rfl
theorem framed_ok {n : Nat} (hn : 1 ≤ n) (h : Go.Abs.H) : callX env sums n 33 [] h = some (.bool true, h) := by
  obtain ⟨n, rfl⟩ : ∃ k, n = k + 1 := ⟨n - 1, by omega⟩
  rfl

/-- what holds ahead of each turn -/
def I7 (h0 : Go.Abs.H) (a : AV) (rs : List (List AV)) (c : Int) (w : Nat) (m : Nat) (f : T SV) (h : Go.Abs.H) : Prop :=
  ∃ (i : Nat) (j l d s g : Int), j = i ∧ f = frS [(1, .v a), (5, .int .i64 c), (6, .ptr w 0), (8, .int .i64 j)] ∧ i ≤ rs.length ∧ m = rs.length - i ∧ HExt h0 h ∧ h0.n ≤ w ∧ w < h.n ∧ h.get w = some (winB c l d s g) ∧ WinOk c l d s g ∧ l ≤ i ∧ l - d ≤ c

theorem law7 (h0 : Go.Abs.H) (l : List AV) (ho : HOk h0) (ha : Args h0 Try.prog Try.f7.params.toList l) : ∃ n h', callX env sums n 7 l h0 = some (.bool true, h') := by
  rw [pars7] at ha
  obtain ⟨v0, r0, rfl, a0, v1, r1, rfl, a1, rfl⟩ := ha
  obtain ⟨cap, rfl, hc1, hc2⟩ := arg_one shape5 agg5 a0
  have hs1 := arg_one shape81 agg81 a1
  obtain ⟨rs, hsl, hrow, hlen⟩ := sl_of_sh (by omega) hs1
  have hblk := sl_blk ho hs1
  have hmin : IntKind.min .u8 = 0 := rfl
  have hmax : IntKind.max .u8 = 255 := rfl
  rw [hmin] at hc1; rw [hmax] at hc2
  suffices hh : W.Spec env sums 1000 7 [.int .u8 cap, v1] h0 (fun r _ => r = .bool true) by
    obtain ⟨v, h', e, rfl⟩ := hh
    exact ⟨1000, h', e⟩
  refine spec_evb [.int .u8 cap, .v v1] rfl ft7 (by kernel_rfl) ?_
  have hfr : initS [.int .u8 cap, .v v1] 0 .nil = frS [(0, .int .u8 cap), (1, .v v1)] := rfl
  rw [hfr]
  refine EvX.of (c := sub [] (bodyOf Try.f7)) ?_
  rw [cs7_]
  refine ev_seq (ev_tr (tr7a ..) ?_)
  show EvX _ _ _ (sub [1] (bodyOf Try.f7)) _ _ _
  rw [cs7_1]
  refine ev_seq (ev_tr (tr7b ..) ?_)
  by_cases hbig : 200 < (rs.length : Int)
  · simp (disch := (first | omega | assumption)) only [go_sem, hsl.len, framed_ok (n := 999) (by omega)]
    show endQ _ _ _ _ .ret _ _
    rw [end7]
  simp (disch := (first | omega | assumption)) only [go_sem, hsl.len]
  show EvX _ _ _ (sub [1, 1] (bodyOf Try.f7)) _ _ _
  rw [cs7_11]
  refine ev_seq (ev_tr (tr7c ..) ?_)
  have hmod : cap.tmod 16 = cap % 16 := Int.tmod_eq_emod_of_nonneg hc1
  simp (disch := (first | omega | assumption)) only [go_sem, hmod, show ¬ (16 : Int) = 0 by omega]
  show EvX _ _ _ (sub [1, 1, 1] (bodyOf Try.f7)) _ _ _
  generalize hcc : 1 + cap % 16 = c
  have hc3 : 1 ≤ c ∧ c ≤ 16 := by omega
  rw [cs7_111]
  refine ev_seq (ev_tr (tr7d ..) ?_)
  simp (disch := (first | omega | assumption)) only [go_sem, new_ok (h := h0) (n := 999) (by omega) c 0 0 hc3.1 hc3.2 (by omega) (by omega) (by omega)]
  show EvX _ _ _ (sub [1, 1, 1, 1] (bodyOf Try.f7)) _ _ _
  rw [cs7_1111]
  refine EvX.less (f0 := frS [(1, .v v1), (5, .int .i64 c), (6, .ptr h0.n 0), (7, .int .i64 0)]) ?_ (less_of ⟨⟨_, rfl, rfl⟩, ⟨_, rfl, rfl⟩, ⟨_, rfl, rfl⟩, ⟨_, rfl, rfl⟩, trivial⟩)
  refine ev_seq (ev_tr (tr7e ..) ?_)
  simp (disch := (first | omega | assumption)) only [go_sem]
  show EvX _ _ _ (sub [1, 1, 1, 1, 1] (bodyOf Try.f7)) _ _ _
  rw [cs7_11111]
  refine ev_seq ?_
  rw [cs7_111110]
  refine ev_seq (ev_tr (tr7f ..) ?_)
  show EvX _ _ _ (sub [1, 1, 1, 1, 1, 0, 1] (bodyOf Try.f7)) _ _ _
  rw [cs7_1111101]
  refine ev_block ?_
  rw [cs7_11111010]
  have hw0 : WinOk c 0 0 0 0 := ⟨hc3.1, hc3.2, by omega, by omega, by omega, by omega, by omega, by omega, by omega⟩
  refine loop_rule (I7 h0 v1 rs c h0.n) ?_ (m := rs.length) (by omega) ⟨0, 0, 0, 0, 0, 0, rfl, rfl, by omega, by omega, ext_new (HExt.refl h0) _, Nat.le_refl _, Nat.lt_succ_self _, get_new_same _ _, hw0, by omega, by omega⟩
  intro m f h ⟨i, j, l, d, s, g, hj, hf, hi, hm, hx, hw1, hw2, hw, hc, hl1, hl2⟩
  subst hj hf hm
  have hslh : SlR h 2 v1 rs := hsl.keep fun b hb => hx.2 b (hblk b hb)
  rw [cs7_111110100]
  refine ev_seq (ev_tr (tr7g ..) ?_)
  by_cases hlt : (i : Int) < rs.length
  · simp (disch := (first | omega | assumption)) only [go_sem, hslh.len]
    show EvX _ _ _ (sub [1, 1, 1, 1, 1, 0, 1, 0, 0, 1] (bodyOf Try.f7)) _ _ _
    rw [cs7_1111101001]
    refine ev_seq ?_
    rw [cs7_11111010010]
    refine ev_block ?_
    rw [cs7_111110100100]
    refine ev_seq (ev_tr (tr7h ..) ?_)
    have hlt' : i < rs.length := by omega
    obtain ⟨r, hr⟩ : ∃ r, rs[i]? = some r := ⟨rs[i], List.getElem?_eq_getElem hlt'⟩
    obtain ⟨x1, y1, rfl, ⟨kk, rfl, hk0, hk1⟩, x2, y2, rfl, ⟨N, rfl, _, _⟩, rfl⟩ := hrow r (List.mem_of_getElem? hr)
    rw [hmin] at hk0
    obtain ⟨b, o, e1, e2, _, _⟩ := hslh.idx hr
    simp (disch := (first | omega | assumption)) only [go_sem, e1, e2]
    show EvX _ _ _ (sub [1, 1, 1, 1, 1, 0, 1, 0, 0, 1, 0, 0, 1] (bodyOf Try.f7)) _ _ _
    have g1 : (h.new (.rows 2 [[.int .u8 kk, .int .i64 N]] false none none)).get h0.n = some (winB c l d s g) := by rw [get_new_ne _ _ _ (by omega), hw]
    have g2 : (h.new (.rows 2 [[.int .u8 kk, .int .i64 N]] false none none)).get h.n = some (.rows 2 [[.int .u8 kk, .int .i64 N]] false none none) := get_new_same _ _
    have g3 : HExt h0 (h.new (.rows 2 [[.int .u8 kk, .int .i64 N]] false none none)) := ext_new hx _
    have g4 : h0.n < (h.new (.rows 2 [[.int .u8 kk, .int .i64 N]] false none none)).n := by rw [hn_new]; omega
    generalize h.new (.rows 2 [[.int .u8 kk, .int .i64 N]] false none none) = h2 at g1 g2 g3 g4
    rw [cs7_1111101001001]
    refine ev_seq (ev_tr (tr7i ..) ?_)
    simp (disch := (first | omega | assumption)) only [go_sem, done_ok (h := h2) (n := 999) (by omega) g1 hc, last_ok (h := h2) (n := 999) (by omega) g1 hc]
    show EvX _ _ _ (sub [1, 1, 1, 1, 1, 0, 1, 0, 0, 1, 0, 0, 1, 1] (bodyOf Try.f7)) _ _ _
    rw [cs7_11111010010011]
    refine ev_seq (switch7 (by omega) g1 g2 hc hk0 hl2 (by omega) ?_)
    intro h' l' d' s' m' q1 q2 q3
    refine tail7 (by omega) q1 q2.ok q2.d1 q2.l1 q2.f (by have := q2.l2; omega) ?_
    show EvX _ _ _ (sub [1, 1, 1, 1, 1, 0, 1, 0, 0, 1, 1] (bodyOf Try.f7)) _ _ _
    refine ev_tr (tr7l ..) ?_
    simp (disch := (first | omega | assumption)) only [go_sem]
    have hx' : HExt h0 h' := W.HExt.keep g3 q3 (by simp)
    refine ⟨rs.length - (i + 1), by omega, i + 1, _, l', d', s', m', by omega, rfl, by omega, rfl, ext_skip hx' _, Nat.le_refl _, ?_, q1, q2.ok, ?_, q2.f⟩
    · rw [skip_n]; have := q3.1; omega
    · have := q2.l2; omega
  · simp (disch := (first | omega | assumption)) only [go_sem, hslh.len]
    show EvX _ _ _ (sub [1, 1, 1, 1, 1, 1] (bodyOf Try.f7)) _ _ _
    refine EvX.less (f0 := frS [(1, .v v1)]) ?_ (less_of ⟨⟨_, rfl, rfl⟩, trivial⟩)
    rw [cs7_111111]
    refine ev_seq (ev_tr (tr7m ..) ?_)
    simp (disch := (first | omega | assumption)) only [go_sem, framed_ok (n := 999) (by omega)]
    show EvX _ _ _ (sub [1, 1, 1, 1, 1, 1, 1] (bodyOf Try.f7)) _ _ _
    rw [show sub [1, 1, 1, 1, 1, 1, 1] (bodyOf Try.f7) = .ret from by kernel_rfl]
    refine ev_ret ?_
    rw [end7']

end Go.Proofs.Ytpfgbnmeaalpdaa
