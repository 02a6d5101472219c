/-
  'SchedAll': the law's run, whatever is handed in (2).
-/
import Derived.Test.YtdncenepmkbolaaSchedM
namespace Go.Proofs.Ytdncenepmkbolaa
open Go Go.Abs Go.Abs.S Go.Abs.W
set_option maxRecDepth 10000
set_option maxHeartbeats 4000000
theorem req_aok (c s d : Int) (key val : List UInt8) : AOk (af (req c s d key val)) := ⟨rfl, rfl, rfl⟩
theorem bk_out_sl {h0 h : Go.Abs.H} {X : Ch} {L : List Ch} {b s N : Nat} {v : AV} {cls : List Cl} {ps : List LP} {turn : Int} {stale : Bool} (k : Hs h0 (SL s v N cls turn stale (Bk b ps (X :: L))) h) : Hs h0 (SL s v N cls turn stale (X :: Bk b ps L)) h :=
  k.perm ((List.Perm.append_left (ScC s v turn stale :: LsC 4 v (cls.map Cl.row) :: rings N cls) ((List.Perm.swap _ _ _).trans (List.perm_middle.symm.cons _)).symm))
theorem bk_in_sl {h0 h : Go.Abs.H} {X : Ch} {L : List Ch} {b s N : Nat} {v : AV} {cls : List Cl} {ps : List LP} {turn : Int} {stale : Bool} (k : Hs h0 (SL s v N cls turn stale (X :: Bk b ps L)) h) : Hs h0 (SL s v N cls turn stale (Bk b ps (X :: L))) h :=
  k.perm ((List.Perm.append_left (ScC s v turn stale :: LsC 4 v (cls.map Cl.row) :: rings N cls) ((List.Perm.swap _ _ _).trans (List.perm_middle.symm.cons _))))
theorem front2 {h0 h : Go.Abs.H} {X Y : Ch} {L : List Ch} {b s N : Nat} {v : AV} {cls : List Cl} {ps : List LP} {turn : Int} {stale : Bool} (k : Hs h0 (SL s v N cls turn stale (Bk b ps (X :: Y :: L))) h) : Hs h0 (X :: Y :: SL s v N cls turn stale (Bk b ps L)) h :=
  k.perm ((List.Perm.append_left (ScC s v turn stale :: LsC 4 v (cls.map Cl.row) :: rings N cls) (List.perm_append_comm_assoc (Cell b (.rows 3 [ps.map (fun p : LP => p.1)] false none none) :: lsm ps) [X, Y] L)).trans (List.perm_append_comm_assoc (ScC s v turn stale :: LsC 4 v (cls.map Cl.row) :: rings N cls) [X, Y] _))
theorem back1 {h0 h : Go.Abs.H} {X : Ch} {L : List Ch} {b s N : Nat} {v : AV} {cls : List Cl} {ps : List LP} {turn : Int} {stale : Bool} (k : Hs h0 (X :: SL s v N cls turn stale (Bk b ps L)) h) : Hs h0 (SL s v N cls turn stale (Bk b ps (X :: L))) h := bk_in_sl (sl_in k)
theorem act_row {h : Go.Abs.H} {r : List AV} (k : ShL h [.int .u8, .int .u8, .bool] r) : ∃ (x y : Int) (b : Bool), r = [.int .u8 x, .int .u8 y, .bool b] ∧ 0 ≤ x ∧ x ≤ 255 ∧ 0 ≤ y ∧ y ≤ 255 := by
  obtain ⟨_, _, rfl, ⟨x, rfl, x1, x2⟩, _, _, rfl, ⟨y, rfl, y1, y2⟩, _, _, rfl, ⟨b, rfl⟩, rfl⟩ := k
  exact ⟨x, y, b, rfl, x1, x2, y1, y2⟩
theorem cell3 {b i : Nat} {h : Go.Abs.H} {L : List Ch} {h0 : Go.Abs.H} {a : List Int} (k : Hs h0 (Cell b (.rows 3 [a.map (AV.int .i64)] false none none) :: L) h) (h3 : a.length = 3) {x : Int} (hi : a[i]? = some x) : cellG (i * 1) (h.get b) = some (.int .i64 x) := by
  have hl := (List.getElem?_eq_some_iff.1 hi).1
  rw [k.get, Nat.mul_one, cellG_one _ _ _ _ _ _ (by omega) (by omega), nth_eq, List.getElem?_map, hi]; rfl
theorem store3 {b i : Nat} {h : Go.Abs.H} {L : List Ch} {h0 : Go.Abs.H} {a : List Int} (k : Hs h0 (Cell b (.rows 3 [a.map (AV.int .i64)] false none none) :: L) h) (h3 : a.length = 3) (hi : i < 3) (x : Int) : ∃ h', storeB h b (i * 1) [.int .i64 x] (h.get b) = some h' ∧ Hs h0 (Cell b (.rows 3 [(a.set i x).map (AV.int .i64)] false none none) :: L) h' ∧ Keep h h' [b] := by
  have e3 : (a.map (AV.int .i64)).length = 3 := by simpa using h3
  refine ⟨h.put b (.rows 3 [(a.set i x).map (AV.int .i64)] false none none), ?_, k.put _, (Keep.refl h _).put (.inr (by simp)) _⟩
  have := storeB_one (b := b) (i := i) (x := .int .i64 x) h (r := a.map (AV.int .i64)) (by omega)
  rw [e3] at this
  rw [k.get, Nat.mul_one, this, List.map_set]

theorem law6 (h0 : Go.Abs.H) (l : List AV) (ho : HOk h0) (ha : Args h0 Try.prog Try.f6.params.toList l) : ∃ n h', callX env sums n 6 l h0 = some (.bool true, h') := by
  rw [pars6] at ha
  obtain ⟨v0, r0, rfl, a0, v1, r1, rfl, a1, rfl⟩ := ha
  obtain ⟨l0, rfl, hl0⟩ := arg_agg shape62' agg62' a0
  obtain ⟨_, _, rfl, ⟨x, rfl, x1, x2⟩, _, _, rfl, ⟨y, rfl, y1, y2⟩, _, _, rfl, ⟨z, rfl, z1, z2⟩, rfl⟩ := hl0
  have hs1 := arg_one shape71 agg71 a1
  obtain ⟨xs, hsl, hrow, hlen⟩ := sl_of_sh (by omega) hs1
  have hblk := sl_blk ho hs1
  have m1 : IntKind.min .u16 = 0 := rfl
  have m2 : IntKind.max .u16 = 65535 := rfl
  rw [m1] at x1 y1 z1; rw [m2] at x2 y2 z2
  obtain ⟨N, hN⟩ : ∃ N, N = 3000 := ⟨_, rfl⟩
  suffices hh : W.Spec env sums (N + 1) 6 [.agg [.int .u16 x, .int .u16 y, .int .u16 z], v1] h0 (fun r _ => r = .bool true) by
    obtain ⟨v, h', e, rfl⟩ := hh
    exact ⟨N + 1, h', e⟩
  obtain ⟨q0, hq0⟩ : ∃ q0 : Int, 96 + x.tmod 1000 = q0 := ⟨_, rfl⟩
  obtain ⟨q1, hq1⟩ : ∃ q1 : Int, 96 + y.tmod 500 = q1 := ⟨_, rfl⟩
  obtain ⟨q2, hq2⟩ : ∃ q2 : Int, 96 + z.tmod 50 = q2 := ⟨_, rfl⟩
  have hx : 96 ≤ q0 ∧ q0 ≤ 1095 := by rw [Int.tmod_eq_emod_of_nonneg x1] at hq0; omega
  have hy : 96 ≤ q1 ∧ q1 ≤ 595 := by rw [Int.tmod_eq_emod_of_nonneg y1] at hq1; omega
  have hz : 96 ≤ q2 ∧ q2 ≤ 145 := by rw [Int.tmod_eq_emod_of_nonneg z1] at hq2; omega
  have ar0 : arrI 3 0 = some 0 := rfl
  have ar1 : arrI 3 1 = some 1 := rfl
  have ar2 : arrI 3 2 = some 2 := rfl
  have c1000 : ¬ (1000 : Int) = 0 := by omega
  have c500 : ¬ (500 : Int) = 0 := by omega
  have c50 : ¬ (50 : Int) = 0 := by omega
  refine spec_trN [.agg [.int .u16 x, .int .u16 y, .int .u16 z], .v v1] rfl ft6 (by kernel_rfl) (tn6 ..) ?_
  by_cases h60 : (60 : Int) < xs.length
  · simp (disch := (first | omega | assumption | rfl | (simp only [hn_new, hn_put, skip_n]; omega))) only [go_sem, hsl.len, turned_ok (n := N) (by omega)]
  simp (disch := (first | omega | assumption | rfl | (simp only [hn_new, hn_put, skip_n]; omega))) only [go_sem, hsl.len, ar0, ar1, ar2, c1000, c500, c50, hq0, hq1, hq2, Nat.zero_mul]
  have k1 := ((Hs.start h0).new (.rows 3 [[.int .u16 x, .int .u16 y, .int .u16 z]] false none none)).new (.rows 1 (qrows [q0, q1, q2]) false none none)
  generalize hbb : (h0.new (.rows 3 [[.int .u16 x, .int .u16 y, .int .u16 z]] false none none)).n = b12 at k1
  have hb12 : h0.n + 1 = b12 := hbb
  rw [hb12]
  refine on2_exb (g := fun s : Nat => .tup [.ptr s 0, .int .i64 0]) (s_new (n := N) (b := b12) (N := 16) (qs := [q0, q1, q2]) (by omega) k1 (by simp) (by simp; omega) (by omega)) fun s h15 ⟨v, cls0, hf, k2⟩ => ?_
  have ok0 : ScOk 16 cls0 0 false := ScOk.fresh hf (by simp) (by simp; omega)
  generalize hLL : ([Cell h0.n (.rows 3 [[.int .u16 x, .int .u16 y, .int .u16 z]] false none none)] : List Ch) = LL at k2
  simp (disch := (first | omega | assumption | rfl | (simp only [hn_new, hn_put, skip_n]; omega))) only [go_sem]
  have k3 := ((k2.nil 1).nil 1).nil 1
  have k4 := (k3.new (.rows 3 [[.nils, .nils, .nils]] false none none))
  generalize hb19 : h15.n = b19 at k4 ⊢
  have k5 : Hs h0 (SL s v 16 cls0 0 false (Bk b19 [(.nils, []), (.nils, []), (.nils, [])] (Cell b12 (.rows 1 (qrows [q0, q1, q2]) false none none) :: LL))) _ :=
    k4.perm (List.perm_append_comm_assoc (Cell b19 (.rows 3 [[.nils, .nils, .nils]] false none none) :: lsm [(.nils, []), (.nils, []), (.nils, [])]) (ScC s v 0 false :: LsC 4 v (cls0.map Cl.row) :: rings 16 cls0) (Cell b12 (.rows 1 (qrows [q0, q1, q2]) false none none) :: LL))
  have hcl0 : cls0.length = 3 := by have := congrArg List.length hf.1; simpa using this
  have bk0 : Bks cls0 [(.nils, []), (.nils, []), (.nils, [])] := ⟨hcl0, rfl, fun i qs p h1 h2 => by
    rw [List.getElem?_map] at h1
    cases hc : cls0[i]? with
    | none => rw [hc] at h1; cases h1
    | some c =>
      rw [hc] at h1; cases h1
      have := (hf.2 c (List.mem_of_getElem? hc)).2.2
      have hp : p.2 = [] := by
        have : p ∈ [((.nils : AV), ([] : List Int)), (.nils, []), (.nils, [])] := List.mem_of_getElem? h2
        simp at this; rw [this]
      show Same i c.qs p.2
      rw [this, hp]; exact ⟨rfl, by simp⟩⟩
  refine ⟨fun l m h => ∃ (i al : Nat) (cls : List Cl) (ps : List LP), l = [.int .i64 al, .int .i64 i] ∧ m = xs.length - i ∧ i ≤ xs.length ∧ al = many ps ∧ al ≤ i ∧ ScOk 16 cls 0 false ∧ QQ cls = [q0, q1, q2] ∧ Bks cls ps ∧ Hs h0 (SL s v 16 cls 0 false (Bk b19 ps (Cell b12 (.rows 1 (qrows [q0, q1, q2]) false none none) :: LL))) h, ⟨xs.length, by omega, 0, 0, cls0, _, rfl, by omega, by omega, rfl, by omega, ok0, hf.1, bk0, k5⟩, ?_⟩
  intro n23 n24 m25 h26 ⟨i, al, cls, ps, e, hm, hi, hal, hali, ok, hqq, bk, k26⟩
  cases e; subst hm
  have hslh : SlR h26 3 v1 xs := hsl.keep fun b hb => k26.ext.2 b (hblk b hb)
  by_cases hlt : (i : Int) < xs.length
  · obtain ⟨r, hr⟩ : ∃ r, xs[i]? = some r := ⟨xs[i], List.getElem?_eq_getElem (by omega)⟩
    obtain ⟨ra, rb, rc, rfl, u1, u2, u3, u4⟩ := act_row (hrow r (List.mem_of_getElem? hr))
    obtain ⟨b, o, p1, _, p3, _⟩ := hslh.idx hr
    have g0 : cellG o (h26.get b) = some (.int .u8 ra) := by have := p3 0 (by omega); rw [cellQ_some _ _ _ (by omega)] at this; exact this
    have g1 : cellG (o + 1) (h26.get b) = some (.int .u8 rb) := by have := p3 1 (by omega); rw [cellQ_some _ _ _ (by omega)] at this; exact this
    obtain ⟨c, hc⟩ : ∃ c : Nat, ra.tmod 3 = c := ⟨(ra.tmod 3).toNat, by rw [Int.tmod_eq_emod_of_nonneg u1]; omega⟩
    obtain ⟨zb, hzb⟩ : ∃ zb : Nat, rb.tmod 64 = zb := ⟨(rb.tmod 64).toNat, by rw [Int.tmod_eq_emod_of_nonneg u3]; omega⟩
    have hc3 : c < 3 := by rw [Int.tmod_eq_emod_of_nonneg u1] at hc; omega
    have hz64 : zb < 64 := by rw [Int.tmod_eq_emod_of_nonneg u3] at hzb; omega
    have c3 : ¬ (3 : Int) = 0 := by omega
    have c64 : ¬ (64 : Int) = 0 := by omega
    simp (disch := (first | omega | assumption | rfl | (simp only [hn_new, hn_put, skip_n]; omega))) only [go_sem, hslh.len, p1, g0, g1, c3, c64, hc, hzb]
    refine on2_ex (put_y (n := N) (by omega) c i (z := zb) (by omega)) fun h35 kp => ?_
    have k35 := k26.more kp
    simp (disch := (first | omega | assumption | rfl | (simp only [hn_new, hn_put, skip_n]; omega))) only [go_sem]
    have hcl : c < cls.length := by rw [bk.1]; exact hc3
    have hpl : c < ps.length := by rw [bk.2.1]; exact hc3
    have hcc : cls[c]? = some cls[c] := List.getElem?_eq_getElem hcl
    generalize cls[c] = cc at hcc
    have hpc : ps[c]? = some ps[c] := List.getElem?_eq_getElem hpl
    generalize ps[c] = pc at hpc
    have hsame := bk.2.2 c cc.qs pc (QS_get hcc) hpc
    have hpcl : pc.2.length = cc.qs.length := by rw [← hsame.1]; simp
    have hccl := (ok.ok cc (List.mem_of_getElem? hcc)).len
    refine on2_ex (s_push (n := N) (by omega) k35 hcc (req c i 9 [107] (List.replicate zb 0)) rfl (req_ok (by simp) (by simp) (by simp; omega))) fun h38 k38 => ?_
    by_cases hfull : cc.qs.length < 16
    · simp only [if_pos hfull] at k38 ⊢
      have at' := bk_at (bk_sl k38) bk.2.1 hpc
      have hpl16 : (pc.2.length : Int) < 16 := by omega
      obtain ⟨w, h48, w1, w2, h50, w3, w4⟩ := bk_app (bk_sl k38) bk.2.1 hpc i (by omega)
      simp (disch := (first | omega | assumption | rfl | (simp only [hn_new, hn_put, skip_n]; omega))) only [go_sem, at'.arr, at'.get, at'.len, w1, w2, w3]
      refine ⟨xs.length - (i + 1), by omega, i + 1, al + 1, _, _, by simp, rfl, by omega, ?_, by omega, ok.push hcc hfull (req_ok (by simp) (by simp) (by simp; omega)), ?_, bks_set bk (i := c) (qs := cc.qs ++ [af (req c i 9 [107] (List.replicate zb 0))]) (by rw [QS, List.map_set]) (same_push hsame (req_aok ..) rfl rfl), sl_bk w4⟩
      · have := set_sum (fun p : LP => p.2.length) (y := (w, pc.2 ++ [(i : Int)])) hpc
        unfold many at hal ⊢
        simp only [List.length_append, List.length_cons, List.length_nil] at this
        omega
      · rw [← hqq]; exact map_set_same (f := fun c : Cl => c.q) hcc rfl
    · simp only [if_neg hfull] at k38 ⊢
      have at' := bk_at (bk_sl k38) bk.2.1 hpc
      have hpl16 : ¬ (pc.2.length : Int) < 16 := by omega
      have c60 : ¬ (60 : Int) = 0 := by omega
      simp (disch := (first | omega | assumption | rfl | (simp only [hn_new, hn_put, skip_n]; omega))) only [go_sem, at'.arr, at'.get, at'.len, c60]
      exact ⟨xs.length - (i + 1), by omega, i + 1, al, cls, ps, by simp, rfl, by omega, hal, by omega, ok, hqq, bk, k38⟩
  simp (disch := (first | omega | assumption | rfl | (simp only [hn_new, hn_put, skip_n]; omega))) only [go_sem, hslh.len]
  generalize hLg : (q0 + 96) / 17 + 1 + ((q1 + 96) / 17 + 1) + ((q2 + 96) / 17 + 1) = Lg
  obtain ⟨f, hf0⟩ : ∃ f : Nat → Int, f = fun i => match i with | 0 => 0 | 1 => (q0 + 96) / 17 + 1 | 2 => (q0 + 96) / 17 + 1 + ((q1 + 96) / 17 + 1) | _ => Lg := ⟨_, rfl⟩
  have c17 : ¬ (17 : Int) = 0 := by omega
  refine ⟨fun l m h => h26 = h ∧ ∃ i : Nat, i ≤ 3 ∧ l = [.int .i64 (f i), .int .i64 i] ∧ m = 3 - i, ⟨3, by omega, rfl, 0, by omega, by rw [hf0]; rfl, rfl⟩, ?_⟩
  intro n53 n54 m55 h56 ⟨e0, j, hj, e, hm⟩
  cases e; subst hm e0
  by_cases hj3 : (j : Int) < 3
  · have hjj : j = 0 ∨ j = 1 ∨ j = 2 := by omega
    have g12 := (sl_out (bk_out_sl k26)).get
    obtain ⟨q, hq, hq1, hq2, hfq⟩ : ∃ q, [q0, q1, q2][j]? = some q ∧ 96 ≤ q ∧ q ≤ 1095 ∧ f (j + 1) = f j + (q + 96) / 17 + 1 := by
      rcases hjj with rfl | rfl | rfl
      · exact ⟨q0, rfl, by omega, by omega, by rw [hf0]; simp⟩
      · exact ⟨q1, rfl, by omega, by omega, by rw [hf0]; simp; omega⟩
      · exact ⟨q2, rfl, by omega, by omega, by rw [hf0]; simp; omega⟩
    have hfj : 0 ≤ f j ∧ f j ≤ 1000 := by
      rcases hjj with rfl | rfl | rfl <;> (rw [hf0]; simp <;> omega)
    have d0 : (q + 96).tdiv 17 = (q + 96) / 17 := Int.tdiv_eq_ediv_of_nonneg (by omega)
    have y0 : idxS 1 (.sl b12 0 3 3) (j : Int) = some (b12, j * 1) := (q_idx (b := b12) (qs := [q0, q1, q2]) hq).1
    have y1 := (q_idx (b := b12) (qs := [q0, q1, q2]) hq).2
    simp (disch := (first | omega | assumption | rfl | (simp only [hn_new, hn_put, skip_n]; omega))) only [go_sem, y0, y1, g12, d0, c17]
    exact ⟨3 - (j + 1), by omega, rfl, j + 1, by omega, by rw [hfq]; simp, rfl⟩
  have hj' : j = 3 := by omega
  subst hj'
  have hf3 : f 3 = Lg := by rw [hf0]; rfl
  have k61 := (k26.new (.rows 3 [[(0 : Int), 0, 0].map (AV.int .i64)] false none none))
  generalize hb60 : h26.n = b60 at k61
  simp (disch := (first | omega | assumption | rfl | (simp only [hn_new, hn_put, skip_n]; omega))) only [go_sem]
  refine ⟨fun l m h => ∃ (al : Nat) (cls : List Cl) (ps : List LP) (t : Nat) (st : Bool) (ag : List Int), l = [.int .i64 al] ∧ m = al ∧ al = many ps ∧ al ≤ 60 ∧ ScOk 16 cls t st ∧ QQ cls = [q0, q1, q2] ∧ Bks cls ps ∧ ag.length = 3 ∧ (∀ (k : Nat) (x : Int), ag[k]? = some x → 0 ≤ x ∧ x + Wk cls t st k ≤ Lg) ∧ Hs h0 (SL s v 16 cls (t : Int) st (Bk b19 ps (Cell b60 (.rows 3 [ag.map (AV.int .i64)] false none none) :: Cell b12 (.rows 1 (qrows [q0, q1, q2]) false none none) :: LL))) h, ⟨al, by omega, al, cls, ps, 0, false, [0, 0, 0], rfl, rfl, hal, by omega, ok, hqq, bk, rfl, ?_, ?_⟩, ?_⟩
  · intro k x hx
    have hk : k < 3 := (List.getElem?_eq_some_iff.1 hx).1
    have : x = 0 := by have := List.mem_of_getElem? hx; simpa using this
    have := wait_le ok hqq hk
    omega
  · exact bk_in_sl (sl_in k61)
  intro n64 m65 h66 ⟨al', cls, ps, t, st, ag, e, hm, hal, hal60, ok, hqq, bk, hag, hW, k66⟩
  cases e
  by_cases hpos : (0 : Int) < al'
  rotate_left
  · -- none waits
    have hnone := qs_none bk (by omega)
    simp (disch := (first | omega | assumption | rfl | (simp only [hn_new, hn_put, skip_n]; omega))) only [go_sem]
    refine on2_ex (pop_none (n := N) (by omega) k66 ok hnone) fun h124 k124 => ?_
    have ov : over zeroC zeroC = some zeroC := over_full rfl
    simp (disch := (first | omega | assumption | rfl | (simp only [hn_new, hn_put, skip_n]; omega))) only [go_sem, show zeroC.length = 29 from rfl, ov]
    have k131 := ((sl_in ((k124.new (.rows 29 [zeroC] false none none)).put (.rows 29 [zeroC] false none none))))
    refine on2_ex2 (s_wait (n := N) (by omega) k131 ok.ne ok.le (by omega) (fun c hc => (ok.ok c hc).len)) fun vg h133 ⟨gs, hgs, k133⟩ => ?_
    have hgs0 : gs = [] := by
      have : (QS cls).flatten = [] := by
        rw [List.flatten_eq_nil_iff]
        intro q hq
        rw [List.mem_map] at hq
        obtain ⟨c, hc, rfl⟩ := hq
        exact hnone c hc
      rw [this] at hgs; simpa using hgs
    subst hgs0
    have hl0 : lenS vg = some 0 := k133.sl.len
    simp (disch := (first | omega | assumption | rfl | (simp only [hn_new, hn_put, skip_n]; omega))) only [go_sem, hl0, turned_ok (n := N) (by omega)]
  simp (disch := (first | omega | assumption | rfl | (simp only [hn_new, hn_put, skip_n]; omega))) only [go_sem]
  refine on2_ex2 (pop_some (n := N) (by omega) k66 ok (qs_any bk (by omega))) fun xx h68 ⟨g, j, cls', t', st', hxx, hp, ok', k68⟩ => ?_
  subst hxx
  obtain ⟨hqq', rest, hqj, hqs'⟩ := pop_head hp
  have hj3 : j < 3 := by have := (List.getElem?_eq_some_iff.1 hqj).1; rw [List.length_map, bk.1] at this; exact this
  obtain ⟨pj, hpj⟩ : ∃ pj, ps[j]? = some pj := ⟨ps[j]'(by rw [bk.2.1]; exact hj3), List.getElem?_eq_getElem _⟩
  have hsame := bk.2.2 j _ pj hqj hpj
  obtain ⟨ha1, ha2⟩ := hsame.2 (af g) (by simp)
  have hp2 : pj.2 = cI (af g).1 3 :: rest.map (fun a => cI a.1 3) := by rw [← hsame.1]; rfl
  have ov : over g.cs zeroC = some g.cs := over_full g.len
  have r5 : nth g.cs 5 = some (.int .i64 j) := by rw [fr_nth g (by omega), ha1.cls, ha2]
  have r3 : nth g.cs 3 = some (.int .i64 (cI (af g).1 3)) := by rw [fr_nth g (by omega), ha1.seq]
  have k74 := sl_in ((k68.new (.rows 29 [zeroC] false none none)).put (.rows 29 [g.cs] false none none))
  have kb := bk_sl (bk_in_sl k74)
  have at' := bk_at kb bk.2.1 hpj
  obtain ⟨b', o', e1, e2⟩ := bk_head kb hpj hp2
  have hne : ¬ (pj.2.length : Int) = 0 := by rw [hp2]; simp; omega
  have k92 := bk_sl (bk_in_sl ((k74.more ((Keep.refl _ _).skip 31)).more ((Keep.refl _ _).skip 9)))
  obtain ⟨w, h99, w1, w2, w3, w4, w5⟩ := bk_cut k92 bk.2.1 hpj hp2
  rw [skip_get, skip_get] at w3
  simp (disch := (first | omega | assumption | rfl | (simp only [hn_new, hn_put, skip_n]; omega))) only [go_sem, g.len, ov, r5, r3, at'.arr, at'.get, at'.len, hne, e1, e2, w1, w2, w3]
  have kk := front2 (sl_bk w4)
  have bk' := bks_set (cls' := cls') (p := (w, rest.map (fun a => cI a.1 3))) bk hqs' ⟨rfl, fun a ha => hsame.2 a (by simp [ha])⟩
  generalize hps' : ps.set j (w, rest.map (fun a => cI a.1 3)) = ps' at kk bk'
  have hmany : many ps' + 1 = al' := by
    have := set_sum (fun p : LP => p.2.length) (y := (w, rest.map (fun a => cI a.1 3))) hpj
    rw [hps'] at this
    have hl : pj.2.length = (rest.map (fun a => cI a.1 3)).length + 1 := by rw [hp2]; rfl
    unfold many at hal ⊢
    simp only at this
    omega
  generalize h68.n = b73 at kk ⊢
  clear w1 w2 w3 w4 w5 k92 e1 e2 at' kb k74
  refine ⟨fun l m h => ∃ (k : Nat) (ag' : List Int), l = [.int .i64 k] ∧ m = 3 - k ∧ k ≤ 3 ∧ ag'.length = 3 ∧ (∀ (i : Nat) (x : Int), ag'[i]? = some x → (i < k → 0 ≤ x ∧ x + Wk cls' t' st' i ≤ Lg) ∧ (k ≤ i → ag[i]? = some x)) ∧ Hs h0 (Cell b73 (.rows 29 [g.cs] false none none) :: Cell b60 (.rows 3 [ag'.map (AV.int .i64)] false none none) :: SL s v 16 cls' (t' : Int) st' (Bk b19 ps' (Cell b12 (.rows 1 (qrows [q0, q1, q2]) false none none) :: LL))) h, ⟨3, by omega, 0, ag, rfl, rfl, by omega, hag, fun i x hx => ⟨fun h => by omega, fun _ => hx⟩, kk⟩, ?_⟩
  intro n102 m103 h104 ⟨k, ag', e, hm', hk, hag', hA, kk⟩
  cases e
  by_cases hk3 : (k : Int) < 3
  rotate_left
  · simp (disch := (first | omega | assumption | rfl | (simp only [hn_new, hn_put, skip_n]; omega))) only [go_sem]
    refine ⟨m65 - 1, by omega, many ps', cls', ps', t', st', ag', ?_, by omega, rfl, by omega, ok', by rw [hqq', hqq], bk', hag', fun i x hx => (hA i x hx).1 ?_, back1 kk.drop⟩
    · have : (al' : Int) - 1 = many ps' := by omega
      rw [this]
    · have := (List.getElem?_eq_some_iff.1 hx).1; omega
  have hk3' : k < 3 := by omega
  obtain ⟨x, hx⟩ : ∃ x, ag'[k]? = some x := ⟨ag'[k]'(by omega), List.getElem?_eq_getElem _⟩
  have hagx := (hA k x hx).2 (Nat.le_refl _)
  have hWx := hW k x hagx
  have hWle := wait_le ok' (hqq'.trans hqq) hk3'
  have hWpos := wait_pos (k := k) ok'
  have hq16 : 0 ≤ Wk cls t st k := wait_pos ok
  have hset : ∀ y : Int, 0 ≤ y ∧ y + Wk cls' t' st' k ≤ Lg → ∀ (i : Nat) (z : Int), (ag'.set k y)[i]? = some z → (i < k + 1 → 0 ≤ z ∧ z + Wk cls' t' st' i ≤ Lg) ∧ (k + 1 ≤ i → ag[i]? = some z) := by
    intro y hy i z hz
    by_cases hik : i = k
    · subst hik
      rw [List.getElem?_set_self (by omega)] at hz; cases hz
      exact ⟨fun _ => hy, fun h => by omega⟩
    · rw [List.getElem?_set_ne (Ne.symm hik)] at hz
      exact ⟨fun h => (hA i z hz).1 (by omega), fun h => (hA i z hz).2 (by omega)⟩
  have ark := arr3 hk3'
  have gx := cell3 kk.at2 hag' hx
  obtain ⟨h108, s1, s2, _⟩ := store3 kk.at2 hag' hk3' (x + 1)
  have g73 := s2.at2.get
  have hxb : x ≤ 100000 := by omega
  have l2 : (ag'.set k (x + 1)).length = 3 := by simpa using hag'
  have v0 : 0 ≤ (0 : Int) ∧ 0 + Wk cls' t' st' k ≤ Lg := ⟨by omega, by omega⟩
  by_cases hkj : (k : Int) = j
  · obtain ⟨h111, u1, u2, _⟩ := store3 s2 l2 hk3' 0
    have gx2 := cell3 u2 (by simpa using l2) (i := k) (x := 0) (List.getElem?_set_self (by omega))
    have c0 : ¬ Lg < 0 := by omega
    simp (disch := (first | omega | assumption | rfl | (simp only [hn_new, hn_put, skip_n]; omega))) only [go_sem, ark, gx, s1, g73, r5, u1, gx2, hf3, c0]
    rw [List.set_set] at u2
    exact ⟨3 - (k + 1), by omega, k + 1, ag'.set k 0, by simp, rfl, by omega, by simpa using hag', hset 0 v0, u2.at2⟩
  obtain ⟨pk, hpk⟩ : ∃ pk, ps'[k]? = some pk := ⟨ps'[k]'(by rw [bk'.2.1]; exact hk3'), List.getElem?_eq_getElem _⟩
  have atk := bk_at (bk_sl s2.drop.drop) bk'.2.1 hpk
  by_cases hpe : (pk.2.length : Int) = 0
  · obtain ⟨h111, u1, u2, _⟩ := store3 s2 l2 hk3' 0
    have gx2 := cell3 u2 (by simpa using l2) (i := k) (x := 0) (List.getElem?_set_self (by omega))
    have c0 : ¬ Lg < 0 := by omega
    simp (disch := (first | omega | assumption | rfl | (simp only [hn_new, hn_put, skip_n]; omega))) only [go_sem, ark, gx, s1, g73, r5, atk.get, atk.len, u1, gx2, hf3, c0]
    rw [List.set_set] at u2
    exact ⟨3 - (k + 1), by omega, k + 1, ag'.set k 0, by simp, rfl, by omega, by simpa using hag', hset 0 v0, u2.at2⟩
  · have hkj' : k ≠ j := fun e => hkj (by rw [e])
    have hw := pop_wait hp ok bk.1 k hk3' hkj' fun c hc hce => by
      rw [← hps', List.getElem?_set_ne (Ne.symm hkj')] at hpk
      have := (bk.2.2 k c.qs pk (QS_get hc) hpk).1
      rw [hce] at this
      exact hpe (by rw [← this]; rfl)
    have v1' : 0 ≤ x + 1 ∧ x + 1 + Wk cls' t' st' k ≤ Lg := ⟨by omega, by omega⟩
    have c0 : ¬ Lg < x + 1 := by omega
    have gx2 := cell3 s2 l2 (i := k) (x := x + 1) (List.getElem?_set_self (by omega))
    simp (disch := (first | omega | assumption | rfl | (simp only [hn_new, hn_put, skip_n]; omega))) only [go_sem, ark, gx, s1, g73, r5, atk.get, atk.len, gx2, hf3, c0]
    exact ⟨3 - (k + 1), by omega, k + 1, ag'.set k (x + 1), by simp, rfl, by omega, by simpa using hag', hset _ v1', s2.at2⟩
end Go.Proofs.Ytdncenepmkbolaa
