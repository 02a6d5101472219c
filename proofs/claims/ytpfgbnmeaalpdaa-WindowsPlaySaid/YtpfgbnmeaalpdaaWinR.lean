/-
  'WindowsPlay': the law's run, whatever is handed in.
-/
import Derived.Test.YtpfgbnmeaalpdaaWinQ
namespace Go.Proofs.Ytpfgbnmeaalpdaa
open Go Go.Abs Go.Abs.S Go.Abs.W
set_option maxRecDepth 10000
set_option maxHeartbeats 1000000

theorem ft8 : env.ft.get 8 = some Try.f8 := by kernel_rfl
theorem shape3 : shapeOf Try.prog 9 3 = some [.int .i64] := by kernel_rfl
theorem shape90 : shapeOf Try.prog 9 90 = some [.int .i64, .int .i64] := by kernel_rfl
theorem shape81 : shapeOf Try.prog 9 81 = some [.sl 2 [.int .u8, .int .i64]] := by kernel_rfl
theorem agg3 : aggT Try.prog 3 = false := by kernel_rfl
theorem agg90 : aggT Try.prog 90 = true := by kernel_rfl
theorem agg81 : aggT Try.prog 81 = false := by kernel_rfl
theorem pars8 : Try.f8.params.toList = [3, 90, 81] := by kernel_rfl
theorem nil82 : binop env .eql 82 .nilp .nilp = some (.bool true) := by kernel_rfl
theorem end8 (p : Pr) (K : AV → Go.Abs.H → Prop) (h : Go.Abs.H) (c : Bool) (a s : SV) (n : Int) : endQ p env Try.f8.results.toList K .ret (frS [(0, .int .i64 n), (2, a), (4, s), (6, .bool c)]) h = K (.bool c) h := by kernel_rfl
theorem end8' (p : Pr) (K : AV → Go.Abs.H → Prop) (h : Go.Abs.H) (c : Bool) (a s u : SV) : endQ p env Try.f8.results.toList K .ret (frS [(2, a), (6, .bool c), (7, s), (9, u)]) h = K (.bool c) h := by kernel_rfl
theorem end8'' (p : Pr) (K : AV → Go.Abs.H → Prop) (h : Go.Abs.H) (c : Bool) : endQ p env Try.f8.results.toList K .ret (frS [(6, .bool c)]) h = K (.bool c) h := by kernel_rfl
theorem framed_ok {n : Nat} (hn : 1 ≤ n) (h : Go.Abs.H) : callX env sums n 33 [] h = some (.bool true, h) := by
  obtain ⟨n, rfl⟩ : ∃ k, n = k + 1 := ⟨n - 1, by omega⟩
  rfl

theorem new_no {h : Go.Abs.H} {n : Nat} (hn : 1 ≤ n) (c l d : Int) (hv : ¬ (1 ≤ c ∧ c ≤ 16 ∧ 0 ≤ d ∧ d ≤ l ∧ l ≤ 4096)) : callX env sums n 34 [.int .i64 c, .int .i64 l, .int .i64 d] h = some (.tup [.nilp, .int .i64 2], h) := by
  obtain ⟨n, rfl⟩ : ∃ k, n = k + 1 := ⟨n - 1, by omega⟩
  refine spec_eq (spec_tr [.int .i64 c, .int .i64 l, .int .i64 d] rfl ft34 (by kernel_rfl) (tr34 ..) ?_)
  by_cases h1 : c < 1
  · simp (disch := (first | omega | assumption)) only [go_sem, AV.noTup]
  by_cases h2 : 16 < c
  · simp (disch := (first | omega | assumption)) only [go_sem, AV.noTup]
  by_cases h3 : d < 0
  · simp (disch := (first | omega | assumption)) only [go_sem, AV.noTup]
  by_cases h4 : l < d
  · simp (disch := (first | omega | assumption)) only [go_sem, AV.noTup]
  · simp (disch := (first | omega | assumption)) only [go_sem, AV.noTup]
theorem r_new_no {h : Go.Abs.H} {n : Nat} (hn : 1 ≤ n) (c l d : Int) (hv : ¬ (1 ≤ c ∧ c ≤ 16 ∧ 0 ≤ d ∧ d ≤ l ∧ l ≤ 4096)) : callX env sums n 46 [.int .i64 c, .int .i64 l, .int .i64 d] h = some (.tup [.nilp, .int .i64 2], h) := by
  obtain ⟨n, rfl⟩ : ∃ k, n = k + 1 := ⟨n - 1, by omega⟩
  refine spec_eq (spec_tr [.int .i64 c, .int .i64 l, .int .i64 d] rfl ft46 (by kernel_rfl) (tr46 ..) ?_)
  by_cases h1 : c < 1
  · simp (disch := (first | omega | assumption)) only [go_sem, AV.noTup]
  by_cases h2 : 16 < c
  · simp (disch := (first | omega | assumption)) only [go_sem, AV.noTup]
  by_cases h3 : d < 0
  · simp (disch := (first | omega | assumption)) only [go_sem, AV.noTup]
  by_cases h4 : l < d
  · simp (disch := (first | omega | assumption)) only [go_sem, AV.noTup]
  · simp (disch := (first | omega | assumption)) only [go_sem, AV.noTup]
theorem new_yes {h : Go.Abs.H} {n : Nat} (hn : 1 ≤ n) (c l d : Int) (hv : 1 ≤ c ∧ c ≤ 16 ∧ 0 ≤ d ∧ d ≤ l ∧ l ≤ 4096) : callX env sums n 34 [.int .i64 c, .int .i64 l, .int .i64 d] h = some (.tup [.ptr h.n 0, .int .i64 0], h.new (winB c l d l 0)) := by
  obtain ⟨n, rfl⟩ : ∃ k, n = k + 1 := ⟨n - 1, by omega⟩
  obtain ⟨v1, v2, v3, v4, v5⟩ := hv
  refine spec_eq (spec_tr [.int .i64 c, .int .i64 l, .int .i64 d] rfl ft34 (by kernel_rfl) (tr34 ..) ?_)
  simp (disch := (first | omega | assumption)) only [go_sem, winB]
theorem r_new_ok {h : Go.Abs.H} {n : Nat} (hn : 1 ≤ n) (c l d : Int) (hv : 1 ≤ c ∧ c ≤ 16 ∧ 0 ≤ d ∧ d ≤ l ∧ l ≤ 4096) : callX env sums n 46 [.int .i64 c, .int .i64 l, .int .i64 d] h = some (.tup [.ptr h.n 0, .int .i64 0], h.new (winB c l d l 0)) := by
  obtain ⟨n, rfl⟩ : ∃ k, n = k + 1 := ⟨n - 1, by omega⟩
  obtain ⟨v1, v2, v3, v4, v5⟩ := hv
  refine spec_eq (spec_tr [.int .i64 c, .int .i64 l, .int .i64 d] rfl ft46 (by kernel_rfl) (tr46 ..) ?_)
  simp (disch := (first | omega | assumption)) only [go_sem, winB]

/-- what holds ahead of each turn -/
def I8 (h0 : Go.Abs.H) (a : AV) (rs : List (List AV)) (c : Int) (w r : Nat) (m : Nat) (f : T SV) (h : Go.Abs.H) : Prop :=
  ∃ (i : Nat) (j l d s g : Int), j = i ∧ f = frS [(2, .v a), (7, .ptr w 0), (9, .ptr r 0), (11, .int .i64 j)] ∧ i ≤ rs.length ∧ m = rs.length - i ∧ HExt h0 h ∧ w < h.n ∧ r < h.n ∧ h.get w = some (winB c l d s g) ∧ h.get r = some (winB c l d s g) ∧ WinOk c l d s g

theorem law8 (h0 : Go.Abs.H) (l : List AV) (ho : HOk h0) (ha : Args h0 Try.prog Try.f8.params.toList l) : ∃ n h', callX env sums n 8 l h0 = some (.bool true, h') := by
  rw [pars8] at ha
  obtain ⟨v0, r0, rfl, a0, v1, r1, rfl, a1, v2, r2, rfl, a2, rfl⟩ := ha
  obtain ⟨cap, rfl, hc1, hc2⟩ := arg_one shape3 agg3 a0
  obtain ⟨q1, rfl, u1, u2, rfl, ⟨at0, rfl, ha1, ha2⟩, u3, u4, rfl, ⟨at1, rfl, ha3, ha4⟩, rfl⟩ := arg_agg shape90 agg90 a1
  have hs1 := arg_one shape81 agg81 a2
  obtain ⟨rs, hsl, hrow, hlen⟩ := sl_of_sh (by omega) hs1
  have hblk := sl_blk ho hs1
  have hmin : IntKind.min .u8 = 0 := rfl
  suffices hh : W.Spec env sums 1000 8 [.int .i64 cap, .agg [.int .i64 at0, .int .i64 at1], v2] h0 (fun r _ => r = .bool true) by
    obtain ⟨v, h', e, rfl⟩ := hh
    exact ⟨1000, h', e⟩
  refine spec_evb [.int .i64 cap, .agg [.int .i64 at0, .int .i64 at1], .v v2] rfl ft8 (by kernel_rfl) ?_
  rw [show initS [.int .i64 cap, .agg [.int .i64 at0, .int .i64 at1], .v v2] 0 .nil = frS [(0, .int .i64 cap), (1, .agg [.int .i64 at0, .int .i64 at1]), (2, .v v2)] from rfl]
  refine EvX.of (c := sub [] (bodyOf Try.f8)) ?_
  rw [cs8_]
  refine ev_seq (ev_tr (tr8a ..) ?_)
  simp (disch := (first | omega | assumption)) only [go_sem]
  show EvX _ _ _ (sub [1] (bodyOf Try.f8)) _ _ _
  rw [cs8_1]
  refine ev_seq (ev_tr (tr8b ..) ?_)
  by_cases hbig : 200 < (rs.length : Int)
  · simp (disch := (first | omega | assumption)) only [go_sem, hsl.len, framed_ok (n := 999) (by omega)]
    show endQ _ _ _ _ .ret _ _
    rw [end8]
  simp (disch := (first | omega | assumption)) only [go_sem, hsl.len]
  show EvX _ _ _ (sub [1, 1] (bodyOf Try.f8)) _ _ _
  rw [cs8_11]
  have z0 : arrI 2 0 = some 0 := rfl
  have z1 : arrI 2 1 = some 1 := rfl
  by_cases hv : 1 ≤ cap ∧ cap ≤ 16 ∧ 0 ≤ at1 ∧ at1 ≤ at0 ∧ at0 ≤ 4096
  · refine ev_seq (ev_tr (tr8c ..) ?_)
    simp (disch := (first | omega | assumption)) only [go_sem, z0, z1, Nat.zero_mul, Nat.one_mul, new_yes (h := h0.new (.rows 2 [[.int .i64 at0, .int .i64 at1]] false none none)) (n := 999) (by omega) cap at0 at1 hv]
    have g1 : ((h0.new (.rows 2 [[.int .i64 at0, .int .i64 at1]] false none none)).new (winB cap at0 at1 at0 0)).get h0.n = some (.rows 2 [[.int .i64 at0, .int .i64 at1]] false none none) := by rw [get_new_ne _ _ _ (by rw [hn_new]; omega), get_new_same]
    have g2 : ((h0.new (.rows 2 [[.int .i64 at0, .int .i64 at1]] false none none)).new (winB cap at0 at1 at0 0)).get (h0.n + 1) = some (winB cap at0 at1 at0 0) := get_new_same _ _
    have g3 : ((h0.new (.rows 2 [[.int .i64 at0, .int .i64 at1]] false none none)).new (winB cap at0 at1 at0 0)).n = h0.n + 2 := rfl
    have g4 : HExt h0 ((h0.new (.rows 2 [[.int .i64 at0, .int .i64 at1]] false none none)).new (winB cap at0 at1 at0 0)) := ext_new (ext_new (HExt.refl h0) _) _
    generalize (h0.new (.rows 2 [[.int .i64 at0, .int .i64 at1]] false none none)).new (winB cap at0 at1 at0 0) = h1 at g1 g2 g3 g4
    show EvX _ _ _ (sub [1, 1, 1] (bodyOf Try.f8)) _ _ _
    rw [cs8_111]
    refine ev_seq (ev_tr (tr8d ..) ?_)
    simp (disch := (first | omega | assumption)) only [go_sem, z0, z1, Nat.zero_mul, Nat.one_mul, g1, r_new_ok (h := h1) (n := 999) (by omega) cap at0 at1 hv]
    have f1 : (h1.new (winB cap at0 at1 at0 0)).get (h0.n + 1) = some (winB cap at0 at1 at0 0) := by rw [get_new_ne _ _ _ (by omega), g2]
    have f2 : (h1.new (winB cap at0 at1 at0 0)).get h1.n = some (winB cap at0 at1 at0 0) := get_new_same _ _
    have f3 : (h1.new (winB cap at0 at1 at0 0)).n = h1.n + 1 := rfl
    have f4 : HExt h0 (h1.new (winB cap at0 at1 at0 0)) := ext_new g4 _
    generalize h1.new (winB cap at0 at1 at0 0) = h2 at f1 f2 f3 f4
    rw [g3] at f2 f3
    rw [g3]
    show EvX _ _ _ (sub [1, 1, 1, 1] (bodyOf Try.f8)) _ _ _
    rw [cs8_1111]
    refine ev_seq (ev_tr (tr8e ..) ?_)
    simp (disch := (first | omega | assumption)) only [go_sem]
    show EvX _ _ _ (sub [1, 1, 1, 1, 1] (bodyOf Try.f8)) _ _ _
    refine EvX.less (f0 := frS [(2, .v v2), (7, .ptr (h0.n + 1) 0), (9, .ptr (h0.n + 2) 0)]) ?_ (less_of ⟨⟨_, rfl, rfl⟩, ⟨_, rfl, rfl⟩, ⟨_, rfl, rfl⟩, trivial⟩)
    rw [cs8_11111]
    refine ev_seq ?_
    rw [cs8_111110]
    refine ev_seq (ev_tr (tr8f ..) ?_)
    show EvX _ _ _ (sub [1, 1, 1, 1, 1, 0, 1] (bodyOf Try.f8)) _ _ _
    rw [cs8_1111101]
    refine ev_block ?_
    rw [cs8_11111010]
    have hw0 : WinOk cap at0 at1 at0 0 := ⟨by omega, by omega, by omega, by omega, by omega, by omega, by omega, by omega, by omega⟩
    refine loop_rule (I8 h0 v2 rs cap (h0.n + 1) (h0.n + 2)) ?_ (m := rs.length) (by omega) ⟨0, 0, at0, at1, at0, 0, rfl, rfl, by omega, by omega, f4, by omega, by omega, f1, f2, hw0⟩
    intro m f h ⟨i, j, l, d, s, g, hj, hf, hi, hm, hx, hw1, hw2, hw, hr, hc⟩
    subst hj hf hm
    have hslh : SlR h 2 v2 rs := hsl.keep fun b hb => hx.2 b (hblk b hb)
    rw [cs8_111110100]
    refine ev_seq (ev_tr (tr8g ..) ?_)
    by_cases hlt : (i : Int) < rs.length
    · simp (disch := (first | omega | assumption)) only [go_sem, hslh.len]
      show EvX _ _ _ (sub [1, 1, 1, 1, 1, 0, 1, 0, 0, 1] (bodyOf Try.f8)) _ _ _
      rw [cs8_1111101001]
      refine ev_seq ?_
      rw [cs8_11111010010]
      refine ev_block ?_
      rw [cs8_111110100100]
      refine ev_seq (ev_tr (tr8h ..) ?_)
      have hlt' : i < rs.length := by omega
      obtain ⟨row, hrw⟩ : ∃ r, rs[i]? = some r := ⟨rs[i], List.getElem?_eq_getElem hlt'⟩
      obtain ⟨x1, y1, rfl, ⟨kk, rfl, hk0, hk1⟩, x2, y2, rfl, ⟨N, rfl, _, _⟩, rfl⟩ := hrow row (List.mem_of_getElem? hrw)
      rw [hmin] at hk0
      obtain ⟨b, o, e1, e2, _, _⟩ := hslh.idx hrw
      simp (disch := (first | omega | assumption)) only [go_sem, e1, e2]
      show EvX _ _ _ (sub [1, 1, 1, 1, 1, 0, 1, 0, 0, 1, 0, 0, 1] (bodyOf Try.f8)) _ _ _
      have p1 : (h.new (.rows 2 [[.int .u8 kk, .int .i64 N]] false none none)).get (h0.n + 1) = some (winB cap l d s g) := by rw [get_new_ne _ _ _ (by omega), hw]
      have p2 : (h.new (.rows 2 [[.int .u8 kk, .int .i64 N]] false none none)).get (h0.n + 2) = some (winB cap l d s g) := by rw [get_new_ne _ _ _ (by omega), hr]
      have p3 : (h.new (.rows 2 [[.int .u8 kk, .int .i64 N]] false none none)).get h.n = some (.rows 2 [[.int .u8 kk, .int .i64 N]] false none none) := get_new_same _ _
      have p4 : HExt h0 (h.new (.rows 2 [[.int .u8 kk, .int .i64 N]] false none none)) := ext_new hx _
      have p5 : (h.new (.rows 2 [[.int .u8 kk, .int .i64 N]] false none none)).n = h.n + 1 := rfl
      generalize h.new (.rows 2 [[.int .u8 kk, .int .i64 N]] false none none) = h3 at p1 p2 p3 p4 p5
      rw [cs8_1111101001001]
      refine ev_seq (ev_tr (tr8i ..) ?_)
      show EvX _ _ _ (sub [1, 1, 1, 1, 1, 0, 1, 0, 0, 1, 0, 0, 1, 1] (bodyOf Try.f8)) _ _ _
      refine EvX.less (f0 := frS [(2, .v v2), (7, .ptr (h0.n + 1) 0), (9, .ptr (h0.n + 2) 0), (11, .int .i64 i), (12, .ptr h.n 0), (13, .bool false), (14, .bool false)]) ?_ (less_of ⟨⟨_, rfl, rfl⟩, ⟨_, rfl, rfl⟩, ⟨_, rfl, rfl⟩, ⟨_, rfl, rfl⟩, ⟨_, rfl, rfl⟩, ⟨_, rfl, rfl⟩, ⟨_, rfl, rfl⟩, trivial⟩)
      rw [cs8_11111010010011]
      refine ev_seq (ev_tr (tr8j ..) ?_)
      show EvX _ _ _ (sub [1, 1, 1, 1, 1, 0, 1, 0, 0, 1, 0, 0, 1, 1, 1] (bodyOf Try.f8)) _ _ _
      rw [cs8_111110100100111]
      refine ev_seq (switch8 (by omega) p1 p2 p3 (by omega) (by omega) (by omega) (by omega) (by omega) (by omega) hc hk0 ?_)
      intro h' l' d' s' m' b' z q1 q2 q3 q4
      refine tail8 (by omega) q1 q2 q3 fun k => ?_
      show EvX _ _ _ (sub [1, 1, 1, 1, 1, 0, 1, 0, 0, 1, 1] (bodyOf Try.f8)) _ _ _
      refine ev_tr (tr8m ..) ?_
      simp (disch := (first | omega | assumption)) only [go_sem]
      have hx' : HExt h0 h' := W.HExt.keep p4 q4 (by simp)
      have hn' := q4.1
      exact ⟨rs.length - (i + 1), by omega, i + 1, _, l', d', s', m', by omega, rfl, by omega, rfl, ext_skip hx' _, by rw [skip_n]; omega, by rw [skip_n]; omega, q1, q2, q3⟩
    · simp (disch := (first | omega | assumption)) only [go_sem, hslh.len]
      show EvX _ _ _ (sub [1, 1, 1, 1, 1, 1] (bodyOf Try.f8)) _ _ _
      refine EvX.less (f0 := frS [(2, .v v2), (7, .ptr (h0.n + 1) 0), (9, .ptr (h0.n + 2) 0)]) ?_ (less_of ⟨⟨_, rfl, rfl⟩, ⟨_, rfl, rfl⟩, ⟨_, rfl, rfl⟩, trivial⟩)
      rw [cs8_111111]
      obtain ⟨q, hq⟩ := alike_ok (h := h.new (winB cap l d s g)) (w := h.n) (r := h0.n + 2) (n := 999) (by omega) (get_new_same _ _) (by rw [get_new_ne _ _ _ (by omega), hr]) hc
      refine ev_seq (ev_tr (tr8n ..) ?_)
      simp (disch := (first | omega | assumption)) only [go_sem, copy_ok (h := h) (n := 999) (by omega) hw hc, hq, framed_ok (n := 999) (by omega)]
      show EvX _ _ _ (sub [1, 1, 1, 1, 1, 1, 1] (bodyOf Try.f8)) _ _ _
      rw [show sub [1, 1, 1, 1, 1, 1, 1] (bodyOf Try.f8) = .ret from by kernel_rfl]
      refine ev_ret ?_
      rw [end8'']
  · refine ev_seq (ev_tr (tr8c ..) ?_)
    simp (disch := (first | omega | assumption)) only [go_sem, z0, z1, Nat.zero_mul, Nat.one_mul, new_no (h := h0.new (.rows 2 [[.int .i64 at0, .int .i64 at1]] false none none)) (n := 999) (by omega) cap at0 at1 hv]
    show EvX _ _ _ (sub [1, 1, 1] (bodyOf Try.f8)) _ _ _
    rw [cs8_111]
    refine ev_seq (ev_tr (tr8d ..) ?_)
    simp (disch := (first | omega | assumption)) only [go_sem, z0, z1, Nat.zero_mul, Nat.one_mul, r_new_no (h := h0.new (.rows 2 [[.int .i64 at0, .int .i64 at1]] false none none)) (n := 999) (by omega) cap at0 at1 hv]
    show EvX _ _ _ (sub [1, 1, 1, 1] (bodyOf Try.f8)) _ _ _
    rw [cs8_1111]
    refine ev_seq (ev_tr (tr8e ..) ?_)
    simp (disch := (first | omega | assumption)) only [go_sem, nil82, framed_ok (n := 999) (by omega)]
    show endQ _ _ _ _ .ret _ _
    rw [end8']
end Go.Proofs.Ytpfgbnmeaalpdaa
