/-
  'ReadsOnce': the law's run, whatever is handed in.
-/
import Derived.Test.YtpfgbnmeaalpdaaReadF
namespace Go.Proofs.Ytpfgbnmeaalpdaa
open Go Go.Abs Go.Abs.S Go.Abs.W
set_option maxRecDepth 10000
set_option maxHeartbeats 1000000

theorem ft3 : env.ft.get 3 = some Try.f3 := by kernel_rfl
theorem shape5 : shapeOf Try.prog 9 5 = some [.int .u8] := by kernel_rfl
theorem agg5 : aggT Try.prog 5 = false := by kernel_rfl
theorem agg22 : aggT Try.prog 22 = false := by kernel_rfl
theorem pars3 : Try.f3.params.toList = [5, 22] := by kernel_rfl
theorem end3 (p : Pr) (K : AV → Go.Abs.H → Prop) (h : Go.Abs.H) (c : Bool) (s : SV) (n : Int) : endQ p env Try.f3.results.toList K .ret (frS [(0, .int .u8 n), (1, s), (4, .bool c)]) h = K (.bool c) h := by kernel_rfl
theorem end3' (p : Pr) (K : AV → Go.Abs.H → Prop) (h : Go.Abs.H) (c : Bool) : endQ p env Try.f3.results.toList K .ret (frS [(4, .bool c)]) h = K (.bool c) h := by kernel_rfl

noncomputable abbrev FrO (a tv : AV) (cap puts out : Int) (r : Nat) (i : Int) : T SV := frS [(1, .v a), (5, .int .i64 cap), (6, .ptr r 0), (8, .v tv), (9, .int .i64 puts), (10, .int .i64 out), (11, .int .i64 i)]

def IK (h0 : Go.Abs.H) (a tv vo vs : AV) (cap puts out : Int) (r tb L : Nat) (got stay : List (List AV)) (So Ss : List Nat) (i : Int) (m : Nat) (f : T SV) (h : Go.Abs.H) : Prop :=
  ∃ (k : Nat) (j u : Int), j = k ∧ u = out + k ∧ f = FrI a tv vo cap puts u r i j ∧ k ≤ got.length ∧ m = got.length - k ∧ JK h0 r tb L cap puts vo vs got stay So Ss k h
def IO (h0 : Go.Abs.H) (a tv : AV) (cap : Int) (r tb : Nat) (xs : List (List AV)) (m : Nat) (f : T SV) (h : Go.Abs.H) : Prop :=
  ∃ (i : Nat) (j puts out : Int) (v : AV) (rows : List (List AV)) (S : List Nat), j = i ∧ f = FrO a tv cap puts out r j ∧ i ≤ xs.length + 1 ∧ m = xs.length + 1 - i ∧ puts ≤ i ∧ (i = xs.length + 1 → rows = [] ∧ puts ≤ xs.length) ∧ JD h0 r tb (xs.length + 1) cap puts out v rows S h

theorem waited_ok {n : Nat} (hn : 1 ≤ n) (h : Go.Abs.H) : callX env sums n 10 [] h = some (.bool true, h) := by
  obtain ⟨n, rfl⟩ : ∃ k, n = k + 1 := ⟨n - 1, by omega⟩
  rfl
theorem law3 (h0 : Go.Abs.H) (l : List AV) (ho : HOk h0) (ha : Args h0 Try.prog Try.f3.params.toList l) : ∃ n h', callX env sums n 3 l h0 = some (.bool true, h') := by
  rw [pars3] at ha
  obtain ⟨v0, r0, rfl, a0, v1, r1, rfl, a1, rfl⟩ := ha
  obtain ⟨cap, rfl, hc1, hc2⟩ := arg_one shape5 agg5 a0
  have hs1 := arg_one shape22 agg22 a1
  obtain ⟨xs, hsl, hrow, hlen⟩ := sl_of_sh (by omega) hs1
  have hblk := sl_blk ho hs1
  have hmin : IntKind.min .u8 = 0 := rfl
  have hmax : IntKind.max .u8 = 255 := rfl
  rw [hmin] at hc1; rw [hmax] at hc2
  obtain ⟨N, hN⟩ : ∃ N, N = xs.length + 3000 := ⟨_, rfl⟩
  suffices hh : W.Spec env sums (N + 1) 3 [.int .u8 cap, v1] h0 (fun r _ => r = .bool true) by
    obtain ⟨v, h', e, rfl⟩ := hh
    exact ⟨N + 1, h', e⟩
  refine spec_evb [.int .u8 cap, .v v1] rfl ft3 (by kernel_rfl) ?_
  have hfr : initS [.int .u8 cap, .v v1] 0 .nil = frS [(0, .int .u8 cap), (1, .v v1)] := rfl
  rw [hfr]
  refine EvX.of (c := sub [] (bodyOf Try.f3)) ?_
  rw [cs3_]
  refine ev_seq (ev_tr (tr3a ..) ?_)
  show EvX _ _ _ (sub [1] (bodyOf Try.f3)) _ _ _
  rw [cs3_1]
  refine ev_seq (ev_tr (tr3b ..) ?_)
  obtain ⟨b, e1, hb⟩ := great_ok (n := N) (by omega) hsl hrow hlen
  cases b with
  | true =>
    simp (disch := (first | omega | assumption | rfl | (simp only [hn_new, hn_put, skip_n]; omega))) only [go_sem, e1, waited_ok (n := N) (by omega)]
    show endQ _ _ _ _ .ret _ _
    rw [end3]
  | false =>
  have h100 := hb rfl
  simp (disch := (first | omega | assumption | rfl | (simp only [hn_new, hn_put, skip_n]; omega))) only [go_sem, e1]
  show EvX _ _ _ (sub [1, 1] (bodyOf Try.f3)) _ _ _
  rw [cs3_11]
  refine ev_seq (ev_tr (tr3c ..) ?_)
  have hmod : cap.tmod 16 = cap % 16 := Int.tmod_eq_emod_of_nonneg hc1
  simp (disch := (first | omega | assumption | rfl | (simp only [hn_new, hn_put, skip_n]; omega))) only [go_sem, hmod, show ¬ (16 : Int) = 0 by omega]
  show EvX _ _ _ (sub [1, 1, 1] (bodyOf Try.f3)) _ _ _
  generalize hcc : 1 + cap % 16 = c
  have hc3 : 1 ≤ c ∧ c ≤ 16 := by omega
  rw [cs3_111]
  refine ev_seq (ev_tr (tr3d ..) ?_)
  obtain ⟨h1, g1⟩ : ∃ h1, h0.new (.rows 3 [[.int .i64 c, .nils, .int .i64 0]] false none none) = h1 := ⟨_, rfl⟩
  have e2 := rnew_ok (h := h0) (n := N) (by omega) hc3.1 hc3.2
  rw [g1] at e2
  simp (disch := (first | omega | assumption | rfl | (simp only [hn_new, hn_put, skip_n]; omega))) only [go_sem, e2]
  show EvX _ _ _ (sub [1, 1, 1, 1] (bodyOf Try.f3)) _ _ _
  rw [cs3_1111]
  refine EvX.less (f0 := frS [(1, .v v1), (5, .int .i64 c), (6, .ptr h0.n 0), (7, .int .i64 0)]) ?_ (less_of ⟨⟨_, rfl, rfl⟩, ⟨_, rfl, rfl⟩, ⟨_, rfl, rfl⟩, ⟨_, rfl, rfl⟩, trivial⟩)
  refine ev_seq (ev_tr (tr3e ..) ?_)
  simp (disch := (first | omega | assumption | rfl | (simp only [hn_new, hn_put, skip_n]; omega))) only [go_sem]
  show EvX _ _ _ (sub [1, 1, 1, 1, 1] (bodyOf Try.f3)) _ _ _
  rw [cs3_11111]
  refine ev_seq (ev_tr (tr3f ..) ?_)
  have k1 : Keep h0 h1 [] := g1 ▸ (Keep.refl h0 _).new _
  have n1 : h1.n = h0.n + 1 := by rw [← g1]; rfl
  have r1 : h1.get h0.n = some (.rows 3 [[.int .i64 c, .nils, .int .i64 0]] false none none) := g1 ▸ get_new_same _ _
  have hmk : mkS 1 ((xs.length : Int) + 1) ((xs.length : Int) + 1) = some (xs.length + 1, xs.length + 1) := by
    rw [show (xs.length : Int) + 1 = ((xs.length + 1 : Nat) : Int) by omega]
    simp only [mkS, natOf_ofNat, ble_t (Nat.le_refl (xs.length + 1)), ble_t (show (xs.length + 1) * 1 ≤ 1099511627776 by omega), ble_t (show xs.length + 1 ≤ 1099511627776 by omega)]
  simp (disch := (first | omega | assumption | rfl | (simp only [hn_new, hn_put, skip_n]; omega))) only [go_sem, hsl.len, hmk]
  show EvX _ _ _ (sub [1, 1, 1, 1, 1, 1] (bodyOf Try.f3)) _ _ _
  obtain ⟨h2, g2⟩ : ∃ h2, h1.new (.rows 1 (List.replicate (xs.length + 1) [.bool false]) false none none) = h2 := ⟨_, rfl⟩
  rw [g2]
  have k2 : Keep h1 h2 [] := g2 ▸ (Keep.refl h1 _).new _
  have n2 : h2.n = h1.n + 1 := by rw [← g2]; rfl
  have t2 : h2.get h1.n = some (.rows 1 (List.replicate (xs.length + 1) [.bool false]) false none none) := g2 ▸ get_new_same _ _
  have r2 : h2.get h0.n = some (.rows 3 [[.int .i64 c, .nils, .int .i64 0]] false none none) := by rw [k2.2 h0.n (by omega) (by simp)]; exact r1
  rw [cs3_111111]
  refine ev_seq (ev_tr (tr3g ..) ?_)
  show EvX _ _ _ (sub [1, 1, 1, 1, 1, 1, 1] (bodyOf Try.f3)) _ _ _
  rw [cs3_1111111]
  refine ev_seq ?_
  rw [cs3_11111110]
  refine ev_seq (ev_tr (tr3h ..) ?_)
  show EvX _ _ _ (sub [1, 1, 1, 1, 1, 1, 1, 0, 1] (bodyOf Try.f3)) _ _ _
  rw [cs3_111111101]
  refine ev_block ?_
  rw [cs3_1111111010]
  have hj0 : JD h0 h0.n h1.n (xs.length + 1) c 0 0 .nils [] [] h2 :=
    ⟨W.HExt.keep (HExt.refl h0) (k1.trans k2) (by simp), Nat.le_refl _, by omega, by omega, ⟨r2, Lst.nil _ _, by simp, by omega, by simp, hc3.1, by simp, rfl⟩, by simp, by simp,
      ⟨_, ⟨t2, by simp, fun y hy => by rw [List.eq_of_mem_replicate hy]; rfl, by omega⟩, fun _ h => (by cases h), fun m _ hm => by rw [List.length_replicate] at hm; rw [List.getElem?_replicate, if_pos hm]⟩, fun _ h => (by cases h), .nil, by simp, by omega, by simp; omega⟩
  refine loop_rule (IO h0 v1 (.sl h1.n 0 (xs.length + 1) (xs.length + 1)) c h0.n h1.n xs) ?_ (m := xs.length + 1) (by omega) ⟨0, 0, 0, 0, _, _, _, rfl, rfl, by omega, by omega, by omega, by omega, hj0⟩
  intro m f h ⟨i, j, puts, out, v, rows, S, hj, hf, hi, hm, hpi, hend, hJ⟩
  subst hj hf hm
  have hslh : SlR h 35 v1 xs := hsl.keep fun b hb => hJ.ext.2 b (hblk b hb)
  rw [cs3_11111110100]
  refine ev_seq (ev_tr (tr3i ..) ?_)
  by_cases hlt : (i : Int) ≤ xs.length
  · simp (disch := (first | omega | assumption | rfl | (simp only [hn_new, hn_put, skip_n]; omega))) only [go_sem, hslh.len]
    show EvX _ _ _ (sub [1, 1, 1, 1, 1, 1, 1, 0, 1, 0, 0, 1] (bodyOf Try.f3)) _ _ _
    rw [cs3_111111101001]
    refine ev_seq ?_
    rw [cs3_1111111010010]
    refine ev_block ?_
    rw [cs3_11111110100100]
    refine ev_seq (ev_tr (tr3j ..) ?_)
    show EvX _ _ _ (sub [1, 1, 1, 1, 1, 1, 1, 0, 1, 0, 0, 1, 0, 0, 1] (bodyOf Try.f3)) _ _ _
    refine EvX.less (f0 := FrD v1 (.sl h1.n 0 (xs.length + 1) (xs.length + 1)) .nils c puts out h0.n i) ?_ (less_of ⟨⟨_, rfl, rfl⟩, ⟨_, rfl, rfl⟩, ⟨_, rfl, rfl⟩, ⟨_, rfl, rfl⟩, ⟨_, rfl, rfl⟩, ⟨_, rfl, rfl⟩, ⟨_, rfl, rfl⟩, ⟨_, rfl, rfl⟩, trivial⟩)
    rw [cs3_111111101001001]
    refine ev_seq (one3 (by omega) hJ hslh hrow rfl (by omega) (by omega) hpi hc3.2 ?_)
    intro h' puts' vo vs got stay So Ss hp' hlast jk hcnt hful
    show EvX _ _ _ (sub [1, 1, 1, 1, 1, 1, 1, 0, 1, 0, 0, 1, 0, 0, 1, 1] (bodyOf Try.f3)) _ _ _
    rw [cs3_1111111010010011]
    refine ev_seq ?_
    rw [cs3_11111110100100110]
    refine ev_seq (ev_tr (tr3l ..) ?_)
    show EvX _ _ _ (sub [1, 1, 1, 1, 1, 1, 1, 0, 1, 0, 0, 1, 0, 0, 1, 1, 0, 1] (bodyOf Try.f3)) _ _ _
    rw [cs3_111111101001001101]
    refine ev_block ?_
    rw [cs3_1111111010010011010]
    have hout0 := hJ.out0
    refine loop_rule (IK h0 v1 (.sl h1.n 0 (xs.length + 1) (xs.length + 1)) vo vs c puts' out h0.n h1.n (xs.length + 1) got stay So Ss i) ?_ (m := got.length) (by omega) ⟨0, 0, out, rfl, by omega, rfl, by omega, by omega, jk⟩
    intro m f h3 ⟨k, j, u, hj, hu, hf, hk, hm, jk3⟩
    subst hj hu hf hm
    rw [cs3_11111110100100110100]
    refine ev_seq (ev_tr (tr3m ..) ?_)
    by_cases hkl : (k : Int) < got.length
    · simp (disch := (first | omega | assumption | rfl | (simp only [hn_new, hn_put, skip_n]; omega))) only [go_sem, jk3.lst.len]
      show EvX _ _ _ (sub [1, 1, 1, 1, 1, 1, 1, 0, 1, 0, 0, 1, 0, 0, 1, 1, 0, 1, 0, 0, 1] (bodyOf Try.f3)) _ _ _
      rw [cs3_111111101001001101001]
      refine ev_seq ?_
      rw [cs3_1111111010010011010010]
      refine ev_block ?_
      have hkl' : k < got.length := by omega
      refine oneK jk3 (List.getElem?_eq_getElem hkl') ⟨by omega, by omega⟩ (by omega) ?_
      intro h4 u hu jk4
      subst hu
      show EvX _ _ _ (sub [1, 1, 1, 1, 1, 1, 1, 0, 1, 0, 0, 1, 0, 0, 1, 1, 0, 1, 0, 0, 1, 1] (bodyOf Try.f3)) _ _ _
      refine ev_tr (tr3o ..) ?_
      simp (disch := (first | omega | assumption | rfl | (simp only [hn_new, hn_put, skip_n]; omega))) only [go_sem]
      exact ⟨got.length - (k + 1), by omega, k + 1, _, _, by omega, by omega, rfl, by omega, rfl, jk4⟩
    · simp (disch := (first | omega | assumption | rfl | (simp only [hn_new, hn_put, skip_n]; omega))) only [go_sem, jk3.lst.len]
      show EvX _ _ _ (sub [1, 1, 1, 1, 1, 1, 1, 0, 1, 0, 0, 1, 0, 0, 1, 1, 1] (bodyOf Try.f3)) _ _ _
      refine EvX.less (f0 := FrO v1 (.sl h1.n 0 (xs.length + 1) (xs.length + 1)) c puts' (out + k) h0.n i) ?_ (less_of ⟨⟨_, rfl, rfl⟩, ⟨_, rfl, rfl⟩, ⟨_, rfl, rfl⟩, ⟨_, rfl, rfl⟩, ⟨_, rfl, rfl⟩, ⟨_, rfl, rfl⟩, ⟨_, rfl, rfl⟩, trivial⟩)
      refine ev_tr (tr3p ..) ?_
      have hst : (stay.length : Int) = puts' - (out + k) := by omega
      simp (disch := (first | omega | assumption | rfl | (simp only [hn_new, hn_put, skip_n]; omega))) only [go_sem, rlen_ok (n := N) (by omega) jk3.rd, hst]
      show EvX _ _ _ (sub [1, 1, 1, 1, 1, 1, 1, 0, 1, 0, 0, 1, 1] (bodyOf Try.f3)) _ _ _
      refine ev_tr (tr3q ..) ?_
      simp (disch := (first | omega | assumption | rfl | (simp only [hn_new, hn_put, skip_n]; omega))) only [go_sem]
      obtain ⟨told, q1, q2, q3⟩ := jk3.told
      exact ⟨xs.length + 1 - (i + 1), by omega, i + 1, _, puts', out + k, vs, stay, Ss, by omega, rfl, by omega, rfl, by omega, fun e => ⟨(hlast (by omega)).1, by have := (hlast (by omega)).2; omega⟩,
        ⟨jk3.ext, jk3.r0, jk3.t0, jk3.tr, jk3.rd, jk3.ts, jk3.s0, ⟨told, q1, q2.u2, q3⟩, q2.g2, q2.r2, hst, by omega, hful⟩⟩
  · simp (disch := (first | omega | assumption | rfl | (simp only [hn_new, hn_put, skip_n]; omega))) only [go_sem, hslh.len]
    show EvX _ _ _ (sub [1, 1, 1, 1, 1, 1, 1, 1] (bodyOf Try.f3)) _ _ _
    refine EvX.less (f0 := frS [(9, .int .i64 puts), (10, .int .i64 out)]) ?_ (less_of ⟨⟨_, rfl, rfl⟩, ⟨_, rfl, rfl⟩, trivial⟩)
    refine ev_tr (tr3r ..) ?_
    have hm := hJ.many
    have hr0 := (hend (by omega)).1
    subst hr0
    have hpo : puts = out := by simp at hm; omega
    simp (disch := (first | omega | assumption | rfl | (simp only [hn_new, hn_put, skip_n]; omega))) only [go_sem, waited_ok (n := N) (by omega)]
    rw [end3']
end Go.Proofs.Ytpfgbnmeaalpdaa
