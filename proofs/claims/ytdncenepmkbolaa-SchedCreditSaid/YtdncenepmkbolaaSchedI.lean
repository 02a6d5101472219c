/-
  'SchedCredit': the law's run, whatever is handed in (2).
-/
import Derived.Test.YtdncenepmkbolaaSchedH
namespace Go.Proofs.Ytdncenepmkbolaa
open Go Go.Abs Go.Abs.S Go.Abs.W
set_option maxRecDepth 10000
set_option maxHeartbeats 2000000
theorem pars5 : Try.f5.params.toList = [62, 5] := by kernel_rfl
theorem shape62 : shapeOf Try.prog 9 62 = some [.int .u16, .int .u16, .int .u16] := by kernel_rfl
theorem shape5 : shapeOf Try.prog 9 5 = some [.int .u8] := by kernel_rfl
theorem agg62 : aggT Try.prog 62 = true := by kernel_rfl
theorem agg5 : aggT Try.prog 5 = false := by kernel_rfl
/-- a whole request is pushed -/
theorem push_whole {h0 h : Go.Abs.H} {L : List Ch} {n s N i : Nat} {v : AV} {cls : List Cl} {turn : Int} {st : Bool} {q0 q1 : Int} (hn : 8 ≤ n) (k : Hs h0 (SL s v N cls turn st L) h) (w : Two q0 q1 cls) (hi : i < 2) (hl : (C cls i).qs.length < N) (m : Int) :
    ∃ h', callX env sums n 31 [.ptr s 0, .agg (req i m 9 key16 (List.replicate 64 0)).cs] h = some (.int .i64 0, h') ∧ Hs h0 (SL s v N (cls.set i { C cls i with qs := (C cls i).qs ++ [af (req i m 9 key16 (List.replicate 64 0))] }) turn st L) h' := by
  have wh : Whole i (af (req i m 9 key16 (List.replicate 64 0))) := ⟨m, rfl⟩
  obtain ⟨h', e, k'⟩ := s_push (n := n) (by omega) k (w.get hi) (req i m 9 key16 (List.replicate 64 0)) (whole_cost wh).2.2 (whole_cost wh).2.1
  rw [if_pos hl] at e k'
  exact ⟨h', e, k'⟩
/-- one that was taken out -/
theorem row5 {g : Fr} {i : Nat} (h : Whole i (af g)) : nth g.cs 5 = some (.int .i64 i) := by rw [fr_nth g (by omega)]; exact (whole_cost h).2.2

theorem law5 (h0 : Go.Abs.H) (l : List AV) (ho : HOk h0) (ha : Args h0 Try.prog Try.f5.params.toList l) : ∃ n h', callX env sums n 5 l h0 = some (.bool true, h') := by
  rw [pars5] at ha
  obtain ⟨v0, r0, rfl, a0, v1, r1, rfl, a1, rfl⟩ := ha
  obtain ⟨l0, rfl, hl0⟩ := arg_agg shape62 agg62 a0
  obtain ⟨_, _, rfl, ⟨x, rfl, x1, x2⟩, _, _, rfl, ⟨y, rfl, y1, y2⟩, _, _, rfl, ⟨z, rfl, _, _⟩, rfl⟩ := hl0
  obtain ⟨ah, rfl, ah1, ah2⟩ := arg_one shape5 agg5 a1
  have m1 : IntKind.min .u16 = 0 := rfl
  have m2 : IntKind.max .u16 = 65535 := rfl
  have m3 : IntKind.min .u8 = 0 := rfl
  have m4 : IntKind.max .u8 = 255 := rfl
  rw [m1] at x1 y1; rw [m2] at x2 y2; rw [m3] at ah1; rw [m4] at ah2
  obtain ⟨N, hN⟩ : ∃ N, N = 3000 := ⟨_, rfl⟩
  suffices hh : W.Spec env sums (N + 1) 5 [.agg [.int .u16 x, .int .u16 y, .int .u16 z], .int .u8 ah] h0 (fun r _ => r = .bool true) by
    obtain ⟨v, h', e, rfl⟩ := hh
    exact ⟨N + 1, h', e⟩
  obtain ⟨q0, hq0⟩ : ∃ q0 : Int, 96 + x.tmod 1000 = q0 := ⟨_, rfl⟩
  obtain ⟨q1, hq1⟩ : ∃ q1 : Int, 96 + y.tmod 500 = q1 := ⟨_, rfl⟩
  obtain ⟨am, ham⟩ : ∃ am : Int, ah.tmod 40 = am := ⟨_, rfl⟩
  have hx : 96 ≤ q0 ∧ q0 ≤ 1095 := by rw [Int.tmod_eq_emod_of_nonneg x1] at hq0; omega
  have hy : 96 ≤ q1 ∧ q1 ≤ 595 := by rw [Int.tmod_eq_emod_of_nonneg y1] at hq1; omega
  have ham1 : 0 ≤ am ∧ am ≤ 39 := by rw [Int.tmod_eq_emod_of_nonneg ah1] at ham; omega
  have ar0 : arrI 3 0 = some 0 := rfl
  have ar1 : arrI 3 1 = some 1 := rfl
  have c1000 : ¬ (1000 : Int) = 0 := by omega
  have c500 : ¬ (500 : Int) = 0 := by omega
  have c40 : ¬ (40 : Int) = 0 := by omega
  refine spec_trN [.agg [.int .u16 x, .int .u16 y, .int .u16 z], .int .u8 ah] rfl ft5 (by kernel_rfl) (tn5 ..) ?_
  simp (disch := (first | omega | assumption | rfl | (simp only [hn_new, hn_put, skip_n]; omega))) only [go_sem, ar0, ar1, c1000, c500, hq0, hq1, Nat.zero_mul]
  have k1 := ((Hs.start h0).new (.rows 3 [[.int .u16 x, .int .u16 y, .int .u16 z]] false none none)).new (.rows 1 (qrows [q0, q1]) false none none)
  generalize hbb : (h0.new (.rows 3 [[.int .u16 x, .int .u16 y, .int .u16 z]] false none none)).n = b6 at k1
  have hb6 : h0.n + 1 = b6 := hbb
  rw [hb6]
  refine on2_exb (g := fun s : Nat => .tup [.ptr s 0, .int .i64 0]) (s_new (n := N) (b := b6) (N := 16) (qs := [q0, q1]) (by omega) k1 (by simp) (by simp; omega) (by omega)) fun s h9 ⟨v, cls0, hf, k2⟩ => ?_
  generalize hLL : (Cell b6 (.rows 1 (qrows [q0, q1]) false none none) :: [Cell h0.n (.rows 3 [[.int .u16 x, .int .u16 y, .int .u16 z]] false none none)] : List Ch) = LL at k2
  have ok0 : ScOk 16 cls0 0 false := ScOk.fresh hf (by simp) (by simp; omega)
  obtain ⟨ca, cb, hcab, hca, hcb⟩ : ∃ ca cb, cls0 = [ca, cb] ∧ ca.q = q0 ∧ cb.q = q1 := by
    have := hf.1
    match cls0, this with
    | [ca, cb], h => simp at h; exact ⟨ca, cb, rfl, h.1, h.2⟩
    | [], h => simp at h
    | [_], h => simp at h
    | _ :: _ :: _ :: _, h => simp at h
  have fa := hf.2 ca (by simp [hcab])
  have fb := hf.2 cb (by simp [hcab])
  have w0 : Two q0 q1 cls0 := ⟨ca, cb, hcab, hca, hcb, by rw [fa.2.2]; simp, by rw [fb.2.2]; simp⟩
  simp (disch := (first | omega | assumption | rfl | (simp only [hn_new, hn_put, skip_n]; omega))) only [go_sem]
  refine ⟨fun l m h => ∃ (i : Nat) (cls : List Cl) (t : Nat), l = [.int .i64 i] ∧ m = 40 - i ∧ i ≤ 40 ∧ Two q0 q1 cls ∧ ScOk 16 cls t false ∧ (C cls 0).qs = [] ∧ (C cls 1).qs = [] ∧ (C cls 1).cr = 0 ∧ (C cls 1).sv = 0 ∧ Hs h0 (SL s v 16 cls (t : Int) false LL) h, ⟨40, by omega, 0, cls0, 0, rfl, by omega, by omega, w0, ok0, ?_, ?_, ?_, ?_, k2⟩, ?_⟩
  · subst hcab; exact fa.2.2
  · subst hcab; exact fb.2.2
  · subst hcab; exact fb.1
  · subst hcab; exact fb.2.1
  intro n15 m16 h17 ⟨i, cls, t, e, hm, hi, w, ok, z0, z1, z2, z3, k3⟩
  cases e; subst hm
  by_cases hlt : (i : Int) < am
  · -- one is pushed, and taken out
    simp (disch := (first | omega | assumption | rfl | (simp only [hn_new, hn_put, skip_n]; omega))) only [go_sem, c40, ham]
    refine on2_ex (whole_y (by omega) 0 i) fun h19 kp => ?_
    have k4 := k3.more kp
    simp (disch := (first | omega | assumption | rfl | (simp only [hn_new, hn_put, skip_n]; omega))) only [go_sem]
    refine on2_ex (push_whole (i := 0) (by omega) k4 w (by omega) (by rw [z0]; simp) i) fun h22 k5 => ?_
    have w1 := w.push (i := 0) (a := af (req (0 : Nat) i 9 key16 (List.replicate 64 0))) (by omega) ⟨i, rfl⟩
    have ok1 := ok.push (a := af (req (0 : Nat) i 9 key16 (List.replicate 64 0))) (w.get (i := 0) (by omega)) (by rw [z0]; simp) (req_ok (by simp) (by simp) (by simp))
    simp (disch := (first | omega | assumption | rfl | (simp only [hn_new, hn_put, skip_n]; omega))) only [go_sem]
    obtain ⟨c0, c1, rfl, _⟩ := w
    refine on2_ex2 (pop_some (by omega) k5 ok1 ⟨_, List.mem_cons_self, by simp⟩) fun x h25 ⟨g, i', cls', t', st', hx, hp, ok2, k6⟩ => ?_
    have z0' : c0.qs = [] := z0
    obtain ⟨w2, q1', q2', q3', q4', q5'⟩ := pop_one hp w1 z1 (by show (c0.qs ++ [_]).length ≤ 1; rw [z0']; simp) z2 z3
    subst q5'
    exact ⟨40 - (i + 1), by omega, i + 1, cls', t', by simp, rfl, by omega, w2, ok2, q2', q1', q3', q4', k6⟩
  -- sixteen of each
  simp (disch := (first | omega | assumption | rfl | (simp only [hn_new, hn_put, skip_n]; omega))) only [go_sem, c40, ham]
  refine ⟨fun l m h => ∃ (i : Nat) (cls : List Cl), l = [.int .i64 i] ∧ m = 16 - i ∧ i ≤ 16 ∧ Two q0 q1 cls ∧ ScOk 16 cls t false ∧ (C cls 0).qs.length = i ∧ (C cls 1).qs.length = i ∧ (C cls 1).cr = 0 ∧ (C cls 1).sv = 0 ∧ Hs h0 (SL s v 16 cls (t : Int) false LL) h, ⟨16, by omega, 0, cls, rfl, by omega, by omega, w, ok, by rw [z0]; rfl, by rw [z1]; rfl, z2, z3, k3⟩, ?_⟩
  clear w ok z0 z1 z2 z3 k3 hlt hi
  intro n28 m29 h30 ⟨i, cls, e, hm, hi, w, ok, z0, z1, z2, z3, k3⟩
  cases e; subst hm
  by_cases hlt : (i : Int) < 16
  · simp (disch := (first | omega | assumption | rfl | (simp only [hn_new, hn_put, skip_n]; omega))) only [go_sem]
    refine on2_ex (whole_y (by omega) 0 i) fun h32 kp => ?_
    have k4 := k3.more kp
    simp (disch := (first | omega | assumption | rfl | (simp only [hn_new, hn_put, skip_n]; omega))) only [go_sem]
    refine on2_ex (push_whole (i := 0) (by omega) k4 w (by omega) (by omega) i) fun h35 k5 => ?_
    have w1 := w.push (i := 0) (a := af (req (0 : Nat) i 9 key16 (List.replicate 64 0))) (by omega) ⟨i, rfl⟩
    have ok1 := ok.push (a := af (req (0 : Nat) i 9 key16 (List.replicate 64 0))) (w.get (i := 0) (by omega)) (by omega) (req_ok (by simp) (by simp) (by simp))
    simp (disch := (first | omega | assumption | rfl | (simp only [hn_new, hn_put, skip_n]; omega))) only [go_sem]
    refine on2_ex (whole_y (by omega) 1 i) fun h38 kp => ?_
    have k6 := k5.more kp
    simp (disch := (first | omega | assumption | rfl | (simp only [hn_new, hn_put, skip_n]; omega))) only [go_sem]
    obtain ⟨c0, c1, rfl, _⟩ := id w
    refine on2_ex (push_whole (i := 1) (by omega) k6 w1 (by omega) (by show c1.qs.length < 16; have : c1.qs.length = i := z1; omega) i) fun h41 k7 => ?_
    have w2 := w1.push (i := 1) (a := af (req (1 : Nat) i 9 key16 (List.replicate 64 0))) (by omega) ⟨i, rfl⟩
    have ok2 := ok1.push (a := af (req (1 : Nat) i 9 key16 (List.replicate 64 0))) (w1.get (i := 1) (by omega)) (by show c1.qs.length < 16; have : c1.qs.length = i := z1; omega) (req_ok (by simp) (by simp) (by simp))
    simp (disch := (first | omega | assumption | rfl | (simp only [hn_new, hn_put, skip_n]; omega))) only [go_sem]
    refine ⟨16 - (i + 1), by omega, i + 1, _, by simp, rfl, by omega, w2, ok2, ?_, ?_, z2, z3, k7⟩
    · show (c0.qs ++ [_]).length = i + 1
      have : c0.qs.length = i := z0
      simp [this]
    · show (c1.qs ++ [_]).length = i + 1
      have : c1.qs.length = i := z1
      simp [this]
  have hi16 : i = 16 := by omega
  subst hi16
  have hsv := s_served (n := N) (by omega) k3 (w.get (i := 1) (by omega))
  rw [z3] at hsv
  have hsv' : callX env sums N 34 [.ptr s 0, .int .i64 1] h30 = some (.int .i64 0, h30) := hsv
  simp (disch := (first | omega | assumption | rfl | (simp only [hn_new, hn_put, skip_n]; omega))) only [go_sem, hsv']
  refine ⟨fun l m h => ∃ (i : Nat) (first : Int) (cls : List Cl) (t : Nat) (st : Bool), l = [.int .i64 first, .int .i64 i] ∧ m = 32 - i ∧ i ≤ 32 ∧ Two q0 q1 cls ∧ ScOk 16 cls t st ∧ (C cls 0).qs.length + (C cls 1).qs.length + i = 32 ∧ (C cls 1).sv ≤ 96 * i ∧ first ≤ q1 ∧ (first < 0 → ((t = 0 ∨ st = false) ∧ (C cls 1).cr = 0 ∧ (C cls 1).sv = 0) ∨ (t = 1 ∧ st = true ∧ (C cls 1).sv + (C cls 1).cr = q1 ∧ 0 < (C cls 1).sv) ∨ (C cls 1).qs = []) ∧ Hs h0 (SL s v 16 cls (t : Int) st LL) h, ⟨32, by omega, 0, -1, cls, t, false, rfl, by omega, by omega, w, ok, by omega, by omega, by omega, fun _ => .inl ⟨.inr rfl, z2, z3⟩, k3⟩, ?_⟩
  clear w ok z0 z1 z2 z3 k3 hlt hi hsv hsv'
  intro n48 n49 m50 h51 ⟨i, first, cls, t, st, e, hm, hi, w, ok, z0, z1, z2, z3, k3⟩
  cases e; subst hm
  have i1 : idxS 1 (.sl b6 0 2 2) 1 = some (b6, 1 * 1) := rfl
  have g6 : h51.get b6 = some (.rows 1 (qrows [q0, q1]) false none none) := by rw [← hLL] at k3; exact (sl_out k3).get
  have g6' : cellG (1 * 1) (some (.rows 1 (qrows [q0, q1]) false none none)) = some (.int .i64 q1) := (q_idx (b := b6) (qs := [q0, q1]) (i := 1) rfl).2
  by_cases hlt : (i : Int) < 32
  rotate_left
  · simp (disch := (first | omega | assumption | rfl | (simp only [hn_new, hn_put, skip_n]; omega))) only [go_sem, i1, g6, g6', turned_ok (n := N) (by omega)]
  have hl0 := s_len (n := N) (by omega) k3 (w.get (i := 0) (by omega))
  have hl0' : callX env sums N 35 [.ptr s 0, .int .i64 0] h51 = some (.int .i64 (C cls 0).qs.length, h51) := hl0
  have hl1 := s_len (n := N) (by omega) k3 (w.get (i := 1) (by omega))
  have hl1' : callX env sums N 35 [.ptr s 0, .int .i64 1] h51 = some (.int .i64 (C cls 1).qs.length, h51) := hl1
  by_cases hn0 : (0 : Int) < (C cls 0).qs.length
  rotate_left
  · simp (disch := (first | omega | assumption | rfl | (simp only [hn_new, hn_put, skip_n]; omega))) only [go_sem, hl0', i1, g6, g6', turned_ok (n := N) (by omega)]
  by_cases hn1 : (0 : Int) < (C cls 1).qs.length
  rotate_left
  · simp (disch := (first | omega | assumption | rfl | (simp only [hn_new, hn_put, skip_n]; omega))) only [go_sem, hl0', hl1', i1, g6, g6', turned_ok (n := N) (by omega)]
  simp (disch := (first | omega | assumption | rfl | (simp only [hn_new, hn_put, skip_n]; omega))) only [go_sem, hl0', hl1']
  have ne0 : (C cls 0).qs ≠ [] := by intro e; rw [e] at hn0; simp at hn0
  have ne1 : (C cls 1).qs ≠ [] := by intro e; rw [e] at hn1; simp at hn1
  refine on2_ex2 (pop_some (by omega) k3 ok ⟨_, List.mem_of_getElem? (w.get (i := 0) (by omega)), ne0⟩) fun xx h59 ⟨g, j, cls', t', st', hxx, hp, ok', k4⟩ => ?_
  obtain ⟨w', wh, hj, p1, p2, p3, p4⟩ := pop_two hp ok w ne0 ne1 (by omega)
  subst hxx
  have ov : over g.cs zeroC = some g.cs := over_full g.len
  have r5 := row5 wh
  have k5 := sl_in ((k4.new (.rows 29 [zeroC] false none none)).put (.rows 29 [g.cs] false none none))
  have k6 := (sl_out k5).drop
  have hs1 := s_served (n := N) (by omega) k6 (w'.get (i := 1) (by omega))
  have hs1' : callX env sums N 34 [.ptr s 0, .int .i64 1] ((h59.new (.rows 29 [zeroC] false none none)).put h59.n (.rows 29 [g.cs] false none none)) = some (.int .i64 (C cls' 1).sv, _) := hs1
  have hsv := (ok'.ok (C cls' 1) (List.mem_of_getElem? (w'.get (i := 1) (by omega)))).sv
  have hcr := (ok.ok (C cls 1) (List.mem_of_getElem? (w.get (i := 1) (by omega)))).cr
  by_cases hj0 : j = 0
  · subst hj0
    rw [if_neg (by omega)] at p1
    have r5' : nth g.cs 5 = some (.int .i64 0) := r5
    by_cases hs : 0 < (C cls' 1).sv
    · by_cases hfi : n48 < 0
      · simp (disch := (first | omega | assumption | rfl | (simp only [hn_new, hn_put, skip_n]; omega))) only [go_sem, g.len, ov, r5', hs1']
        refine ⟨32 - (i + 1), by omega, i + 1, (C cls' 1).sv, cls', t', st', by simp, rfl, by omega, w', ok', by omega, by omega, ?_, fun h => by omega, k6⟩
        rcases z3 hfi with ⟨_, _, h⟩ | ⟨_, _, h, _⟩ | h
        · omega
        · omega
        · exact absurd h ne1
      · simp (disch := (first | omega | assumption | rfl | (simp only [hn_new, hn_put, skip_n]; omega))) only [go_sem, g.len, ov, r5', hs1']
        exact ⟨32 - (i + 1), by omega, i + 1, n48, cls', t', st', by simp, rfl, by omega, w', ok', by omega, by omega, z2, fun h => by omega, k6⟩
    · simp (disch := (first | omega | assumption | rfl | (simp only [hn_new, hn_put, skip_n]; omega))) only [go_sem, g.len, ov, r5', hs1']
      refine ⟨32 - (i + 1), by omega, i + 1, n48, cls', t', st', by simp, rfl, by omega, w', ok', by omega, by omega, z2, fun hfi => ?_, k6⟩
      rcases z3 hfi with ⟨h1, h2, h3⟩ | ⟨_, _, _, h⟩ | h
      · rcases p3 h1 h2 with ⟨_, h4, h5⟩ | ⟨h4, _⟩
        · exact .inl ⟨h5, h4, by omega⟩
        · omega
      · omega
      · exact absurd h ne1
  · have hj1 : j = 1 := by omega
    subst hj1
    rw [if_pos rfl] at p1
    have r5' : nth g.cs 5 = some (.int .i64 1) := r5
    have c10 : ¬ (1 : Int) = 0 := by omega
    simp (disch := (first | omega | assumption | rfl | (simp only [hn_new, hn_put, skip_n]; omega))) only [go_sem, g.len, ov, r5', c10]
    refine ⟨32 - (i + 1), by omega, i + 1, n48, cls', t', st', by simp, rfl, by omega, w', ok', by omega, by omega, z2, fun hfi => ?_, k6⟩
    rcases z3 hfi with ⟨h1, h2, h3⟩ | ⟨h1, h2, h3, h4⟩ | h
    · rcases p3 h1 h2 with ⟨h4, _⟩ | ⟨_, h4⟩
      · omega
      · rcases h4 with h4 | ⟨h4, h5, h6⟩
        · exact .inr (.inr h4)
        · exact .inr (.inl ⟨h4, h5, by omega, by omega⟩)
    · rcases p4 ⟨h1, h2⟩ with ⟨_, h5, h6⟩ | h5
      · rcases h6 with h6 | ⟨h6, h7, h8⟩
        · exact .inr (.inr h6)
        · exact .inr (.inl ⟨h6, h7, by omega, by omega⟩)
      · omega
    · exact absurd h ne1
end Go.Proofs.Ytdncenepmkbolaa
