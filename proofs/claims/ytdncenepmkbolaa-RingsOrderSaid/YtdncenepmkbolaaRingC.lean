/-
  'RingsOrder': the law's run, whatever is handed in.
-/
import Derived.Test.YtdncenepmkbolaaRingB
import Derived.Test.YtdncenepmkbolaaTo
namespace Go.Proofs.Ytdncenepmkbolaa
open Go Go.Abs Go.Abs.S Go.Abs.W
set_option maxRecDepth 10000
set_option maxHeartbeats 1000000

theorem ft3 : env.ft.get 3 = some Try.f3 := by kernel_rfl
theorem shape5 : shapeOf Try.prog 9 5 = some [.int .u8] := by kernel_rfl
theorem shape22 : shapeOf Try.prog 9 22 = some [.sl 1 [.bool]] := by kernel_rfl
theorem agg5 : aggT Try.prog 5 = false := by kernel_rfl
theorem agg22 : aggT Try.prog 22 = false := by kernel_rfl
theorem pars3 : Try.f3.params.toList = [5, 22] := by kernel_rfl
theorem end3 (p : Pr) (K : AV → Go.Abs.H → Prop) (h : Go.Abs.H) (c : Bool) (s : SV) (n : Int) : endQ p env Try.f3.results.toList K .ret (frS [(0, .int .u8 n), (1, s), (4, .bool c)]) h = K (.bool c) h := by kernel_rfl
theorem end3' (p : Pr) (K : AV → Go.Abs.H → Prop) (h : Go.Abs.H) (c : Bool) : endQ p env Try.f3.results.toList K .ret (frS [(4, .bool c)]) h = K (.bool c) h := by kernel_rfl

/-- a frame that has a number, and nothing else -/
def seqP (x : Int) : List AV := [.int .i64 0, .int .i64 0, .int .i64 0, .int .i64 x, .int .i64 0, .int .i64 0, .int .i64 0, .int .i64 0, .str [], .str [], .int .i64 0, .int .i64 0, .str [], .int .i64 0, .int .i64 0, .int .i64 0, .int .i64 0, .int .i64 0, .int .i64 0, .int .i64 0, .str [], .str [], .int .i64 0, .int .i64 0]
def seqF (x : Int) : Fr := ⟨seqP x, .nils, [.int .i64 0, .int .i64 0, .int .i64 0, .int .i64 0], rfl, rfl, .inl rfl, by simp [seqP, sameL, sameV]⟩
abbrev seqC (x : Int) : List AV := [.int .i64 0, .int .i64 0, .int .i64 0, .int .i64 x, .int .i64 0, .int .i64 0, .int .i64 0, .int .i64 0, .str [], .str [], .int .i64 0, .int .i64 0, .str [], .int .i64 0, .int .i64 0, .int .i64 0, .int .i64 0, .int .i64 0, .int .i64 0, .int .i64 0, .str [], .str [], .int .i64 0, .int .i64 0, .nils, .int .i64 0, .int .i64 0, .int .i64 0, .int .i64 0]
theorem seqF_nth {f : Fr} {x : Int} (h : f.p = seqP x) : nth f.cs 3 = some (.int .i64 x) := by
  show nth (f.p ++ f.m :: f.q) 3 = _
  rw [h]; rfl

noncomputable abbrev Fr3 (a : AV) (N r : Nat) (inn out i : Int) : T SV := frS [(1, .v a), (5, .int .i64 N), (6, .ptr r 0), (8, .int .i64 inn), (9, .int .i64 out), (10, .int .i64 i)]

/-- what holds ahead of each turn -/
structure J3 (h0 : Go.Abs.H) (N P r : Nat) (inn out : Nat) (h : Go.Abs.H) : Prop where
  ext : HExt h0 h
  p0 : h0.n ≤ P
  r0 : h0.n ≤ r
  ring : ∃ first rs fs, RingAt h r P N first rs fs ∧ inn = out + fs.length ∧ ∀ (k : Nat) (f : Fr), fs[k]? = some f → f.p = seqP ((out : Int) + k)
def I3 (h0 : Go.Abs.H) (a : AV) (xs : List (List AV)) (N P r : Nat) (m : Nat) (f : T SV) (h : Go.Abs.H) : Prop :=
  ∃ (i inn out : Nat) (j u v : Int), j = i ∧ u = inn ∧ v = out ∧ f = Fr3 a N r u v j ∧ i ≤ xs.length ∧ m = xs.length - i ∧ J3 h0 N P r inn out h ∧ inn ≤ i

/-- the turn's own part -/
theorem turn3 {F : Nat} (hF : 10 ≤ F) {Q : Ex → T SV → Go.Abs.H → Prop} {h0 h : Go.Abs.H} {a : AV} {xs : List (List AV)} {N P r : Nat} {inn out i : Nat} (hj : J3 h0 N P r inn out h) (hsl : SlR h 1 a xs) {b : Bool} (hb : xs[i]? = some [.bool b]) (hi : inn ≤ i) (hi2 : i ≤ 400)
    (k : ∀ (inn' out' : Nat) (u v : Int) h', u = inn' → v = out' → J3 h0 N P r inn' out' h' → inn' ≤ i + 1 → Q .norm (Fr3 a N r u v i) h') :
    EvX env (callX env sums F) F (sub [1, 1, 1, 1, 1, 1, 0, 1, 0, 0, 1, 0, 0, 0] (bodyOf Try.f3)) (Fr3 a N r inn out i) h Q := by
  obtain ⟨hx, p0, r0, first, rs, fs, ra, hin, hseq⟩ := hj
  have n1 := ra.n1
  have n2 := ra.n2
  have m1 := ra.m1
  obtain ⟨bl, o, e1, _, e3, _⟩ := hsl.idx hb
  have e3' : cellG o (h.get bl) = some (.bool b) := by have := e3 0 (by omega); simpa [cellQ] using this
  refine ev_tr (tr3x ..) ?_
  cases b with
  | true =>
    by_cases hf : fs.length < N
    · obtain ⟨g, rs', h', e4, sg, ra', kp⟩ := push_ok (n := F) (by omega) ra hf (seqF inn)
      have e4' : callX env sums F 16 [.ptr r 0, .agg (seqC inn)] h = some (.bool true, h') := e4
      simp (disch := (first | omega | assumption | rfl | (simp only [hn_new, hn_put, skip_n]; omega))) only [go_sem, e1, e3', e4']
      refine k (inn + 1) out _ _ h' (by omega) rfl ⟨W.HExt.keep hx kp (by simp; omega), p0, r0, first, rs', _, ra', by simp; omega, ?_⟩ (by omega)
      intro q f hq
      rw [List.getElem?_append] at hq
      split at hq
      · exact hseq q f hq
      · rename_i hlt
        have h1 : q - fs.length = 0 := by
          rcases Nat.eq_zero_or_pos (q - fs.length) with h | h
          · exact h
          · rw [List.getElem?_eq_none (by simp; omega)] at hq; cases hq
        rw [h1] at hq
        simp at hq
        subst hq
        rw [← sg.1]
        show seqP inn = _
        congr 1; omega
    · obtain ⟨h', e4, kp⟩ := push_no (n := F) (by omega) ra (by omega) (seqF inn)
      have e4' : callX env sums F 16 [.ptr r 0, .agg (seqC inn)] h = some (.bool false, h') := e4
      simp (disch := (first | omega | assumption | rfl | (simp only [hn_new, hn_put, skip_n]; omega))) only [go_sem, e1, e3', e4']
      exact k inn out _ _ h' rfl rfl ⟨W.HExt.keep hx kp (by simp), p0, r0, first, rs, fs, ra.keep kp, hin, hseq⟩ (by omega)
  | false =>
    cases fs with
    | nil =>
      obtain ⟨h', e4, kp⟩ := pop_no (n := F) (by omega) ra
      have hin' : inn = out := by simpa using hin
      have ov : over zeroC zeroC = some zeroC := over_full rfl
      simp (disch := (first | omega | assumption | rfl | (simp only [hn_new, hn_put, skip_n]; omega))) only [go_sem, e1, e3', e4, ov]
      exact k inn out _ _ _ rfl rfl ⟨ext_new (W.HExt.keep hx kp (by simp)) _, p0, r0, first, rs, [], (ra.keep kp).keep ((Keep.refl _ _).new _), hin, hseq⟩ (by omega)
    | cons f rest =>
      obtain ⟨g, rs', h', e4, sg, ra', kp⟩ := pop_ok (n := F) (by omega) ra
      have hin' : inn = out + (rest.length + 1) := by simpa using hin
      have ov : over g.cs zeroC = some g.cs := over_full g.len
      have hg := seqF_nth (f := g) (x := (out : Int)) (by rw [← sg.1]; have := hseq 0 f rfl; simpa using this)
      simp (disch := (first | omega | assumption | rfl | (simp only [hn_new, hn_put, skip_n]; omega))) only [go_sem, e1, e3', e4, ov, g.len, hg]
      refine k inn (out + 1) _ _ _ rfl (by omega) ⟨ext_new (W.HExt.keep hx kp (by simp; omega)) _, p0, r0, _, rs', rest, ra'.keep ((Keep.refl _ _).new _), by omega, ?_⟩ (by omega)
      intro q f' hq
      have h1 := hseq (q + 1) f' (by simpa using hq)
      rw [h1]
      congr 1; omega

theorem ringed_ok {n : Nat} (hn : 1 ≤ n) (h : Go.Abs.H) : callX env sums n 13 [] h = some (.bool true, h) := by
  obtain ⟨n, rfl⟩ : ∃ k, n = k + 1 := ⟨n - 1, by omega⟩
  rfl

theorem law3 (h0 : Go.Abs.H) (l : List AV) (ho : HOk h0) (ha : Args h0 Try.prog Try.f3.params.toList l) : ∃ n h', callX env sums n 3 l h0 = some (.bool true, h') := by
  rw [pars3] at ha
  obtain ⟨v0, r0, rfl, a0, v1, r1, rfl, a1, rfl⟩ := ha
  obtain ⟨cap, rfl, hc1, hc2⟩ := arg_one shape5 agg5 a0
  have hs1 := arg_one shape22 agg22 a1
  obtain ⟨xs, hsl, hrow, hlen⟩ := sl_of_sh (by omega) hs1
  have hblk := sl_blk ho hs1
  have hmin : IntKind.min .u8 = 0 := rfl
  have hmax : IntKind.max .u8 = 255 := rfl
  rw [hmin] at hc1; rw [hmax] at hc2
  suffices hh : W.Spec env sums 1000 3 [.int .u8 cap, v1] h0 (fun r _ => r = .bool true) by
    obtain ⟨v, h', e, rfl⟩ := hh
    exact ⟨1000, h', e⟩
  refine spec_evb [.int .u8 cap, .v v1] rfl ft3 (by kernel_rfl) ?_
  have hfr : initS [.int .u8 cap, .v v1] 0 .nil = frS [(0, .int .u8 cap), (1, .v v1)] := rfl
  rw [hfr]
  refine EvX.of (c := sub [] (bodyOf Try.f3)) ?_
  rw [cs3_]
  refine ev_seq (ev_tr (tr3a ..) ?_)
  show EvX _ _ _ (sub [1] (bodyOf Try.f3)) _ _ _
  rw [cs3_1]
  refine ev_seq (ev_tr (tr3b ..) ?_)
  by_cases hbig : 300 < (xs.length : Int)
  · simp (disch := (first | omega | assumption | rfl | (simp only [hn_new, hn_put, skip_n]; omega))) only [go_sem, hsl.len, ringed_ok (n := 999) (by omega)]
    show endQ _ _ _ _ .ret _ _
    rw [end3]
  simp (disch := (first | omega | assumption | rfl | (simp only [hn_new, hn_put, skip_n]; omega))) only [go_sem, hsl.len]
  show EvX _ _ _ (sub [1, 1] (bodyOf Try.f3)) _ _ _
  rw [cs3_11]
  refine ev_seq (ev_tr (tr3c ..) ?_)
  have hmod : cap.tmod 64 = cap % 64 := Int.tmod_eq_emod_of_nonneg hc1
  simp (disch := (first | omega | assumption | rfl | (simp only [hn_new, hn_put, skip_n]; omega))) only [go_sem, hmod, show ¬ (64 : Int) = 0 by omega]
  show EvX _ _ _ (sub [1, 1, 1] (bodyOf Try.f3)) _ _ _
  obtain ⟨N, hN⟩ : ∃ N : Nat, 1 + cap % 64 = (N : Int) := ⟨(1 + cap % 64).toNat, by omega⟩
  rw [hN]
  have hN1 : 1 ≤ N := by omega
  have hN2 : N ≤ 64 := by omega
  rw [cs3_111]
  refine ev_seq (ev_tr (tr3d ..) ?_)
  obtain ⟨rs, h1, e1, ra, k1⟩ := new_ok (h := h0) (n := 999) (by omega) hN1 hN2
  simp (disch := (first | omega | assumption | rfl | (simp only [hn_new, hn_put, skip_n]; omega))) only [go_sem, e1]
  show EvX _ _ _ (sub [1, 1, 1, 1] (bodyOf Try.f3)) _ _ _
  rw [cs3_1111]
  refine EvX.less (f0 := frS [(1, .v v1), (5, .int .i64 N), (6, .ptr (h0.n + 1) 0), (7, .int .i64 0)]) ?_ (less_of ⟨⟨_, rfl, rfl⟩, ⟨_, rfl, rfl⟩, ⟨_, rfl, rfl⟩, ⟨_, rfl, rfl⟩, trivial⟩)
  refine ev_seq (ev_tr (tr3e ..) ?_)
  simp (disch := (first | omega | assumption | rfl | (simp only [hn_new, hn_put, skip_n]; omega))) only [go_sem, cap_ok (n := 999) (by omega) ra]
  show EvX _ _ _ (sub [1, 1, 1, 1, 1] (bodyOf Try.f3)) _ _ _
  rw [cs3_11111]
  refine ev_seq (ev_tr (tr3f ..) ?_)
  simp (disch := (first | omega | assumption | rfl | (simp only [hn_new, hn_put, skip_n]; omega))) only [go_sem]
  show EvX _ _ _ (sub [1, 1, 1, 1, 1, 1] (bodyOf Try.f3)) _ _ _
  rw [cs3_111111]
  refine ev_seq ?_
  rw [cs3_1111110]
  refine ev_seq (ev_tr (tr3g ..) ?_)
  simp (disch := (first | omega | assumption | rfl | (simp only [hn_new, hn_put, skip_n]; omega))) only [go_sem]
  show EvX _ _ _ (sub [1, 1, 1, 1, 1, 1, 0, 1] (bodyOf Try.f3)) _ _ _
  rw [cs3_11111101]
  refine ev_block ?_
  rw [cs3_111111010]
  have hj0 : J3 h0 N h0.n (h0.n + 1) 0 0 h1 := ⟨W.HExt.keep (HExt.refl h0) k1 (by simp), Nat.le_refl _, by omega, 0, rs, [], ra, rfl, by simp⟩
  refine loop_rule (I3 h0 v1 xs N h0.n (h0.n + 1)) ?_ (m := xs.length) (by omega) ⟨0, 0, 0, 0, 0, 0, rfl, rfl, rfl, rfl, by omega, by omega, hj0, by omega⟩
  intro m f h ⟨i, inn, out, j, u, v, hj, hu, hv, hf, hi, hm, hJ, hii⟩
  subst hj hu hv hf hm
  have hslh : SlR h 1 v1 xs := hsl.keep fun b hb => hJ.ext.2 b (hblk b hb)
  rw [cs3_1111110100]
  refine ev_seq (ev_tr (tr3h ..) ?_)
  by_cases hlt : (i : Int) < xs.length
  · simp (disch := (first | omega | assumption | rfl | (simp only [hn_new, hn_put, skip_n]; omega))) only [go_sem, hslh.len]
    show EvX _ _ _ (sub [1, 1, 1, 1, 1, 1, 0, 1, 0, 0, 1] (bodyOf Try.f3)) _ _ _
    rw [cs3_11111101001]
    refine ev_seq ?_
    rw [cs3_111111010010]
    refine ev_block ?_
    rw [cs3_1111110100100]
    have hlt' : i < xs.length := by omega
    obtain ⟨rr, hr⟩ : ∃ r, xs[i]? = some r := ⟨xs[i], List.getElem?_eq_getElem hlt'⟩
    obtain ⟨x1, y1, rfl, ⟨b, rfl⟩, rfl⟩ := hrow rr (List.mem_of_getElem? hr)
    refine ev_seq (turn3 (by omega) hJ hslh hr hii (by omega) ?_)
    intro inn' out' u v h' hu hv hJ' hii'
    subst hu hv
    show EvX _ _ _ (sub [1, 1, 1, 1, 1, 1, 0, 1, 0, 0, 1, 0, 0, 1] (bodyOf Try.f3)) _ _ _
    obtain ⟨hx', p0', r0', first', rs', fs', ra', hin', hseq'⟩ := hJ'
    refine ev_tr (tr3y ..) ?_
    have hm1 := ra'.m1
    have hlen : (fs'.length : Int) = inn' - out' := by omega
    simp (disch := (first | omega | assumption | rfl | (simp only [hn_new, hn_put, skip_n]; omega))) only [go_sem, len_ok (n := 999) (by omega) ra', hlen]
    show EvX _ _ _ (sub [1, 1, 1, 1, 1, 1, 0, 1, 0, 0, 1, 1] (bodyOf Try.f3)) _ _ _
    refine ev_tr (tr3z ..) ?_
    simp (disch := (first | omega | assumption | rfl | (simp only [hn_new, hn_put, skip_n]; omega))) only [go_sem]
    exact ⟨xs.length - (i + 1), by omega, i + 1, inn', out', _, _, _, by omega, rfl, rfl, rfl, by omega, rfl, ⟨hx', p0', r0', first', rs', fs', ra', hin', hseq'⟩, hii'⟩
  · simp (disch := (first | omega | assumption | rfl | (simp only [hn_new, hn_put, skip_n]; omega))) only [go_sem, hslh.len]
    show EvX _ _ _ (sub [1, 1, 1, 1, 1, 1, 1] (bodyOf Try.f3)) _ _ _
    refine EvX.less (f0 := frS [(1, .v v1)]) ?_ (less_of ⟨⟨_, rfl, rfl⟩, trivial⟩)
    rw [cs3_1111111]
    refine ev_seq (ev_tr (tr3m ..) ?_)
    simp (disch := (first | omega | assumption | rfl | (simp only [hn_new, hn_put, skip_n]; omega))) only [go_sem, ringed_ok (n := 999) (by omega)]
    show EvX _ _ _ (sub [1, 1, 1, 1, 1, 1, 1, 1] (bodyOf Try.f3)) _ _ _
    rw [cs3_11111111]
    refine ev_ret ?_
    rw [end3']
end Go.Proofs.Ytdncenepmkbolaa
