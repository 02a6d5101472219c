/-
  'SchedWorks': the law's run, whatever is handed in.
-/
import Derived.Test.YtdncenepmkbolaaSchedO
namespace Go.Proofs.Ytdncenepmkbolaa
open Go Go.Abs Go.Abs.S Go.Abs.W
set_option maxRecDepth 10000
set_option maxHeartbeats 4000000
theorem pars7 : Try.f7.params.toList = [62, 71] := by kernel_rfl
theorem bks_aok {cls : List Cl} {ps : List LP} (k : Bks cls ps) : ∀ c ∈ cls, ∀ a ∈ c.qs, AOk a := by
  intro c hc
  obtain ⟨i, hi, he⟩ := List.getElem_of_mem hc
  have hp : i < ps.length := by have := k.1; have := k.2.1; omega
  have := (k.2.2 i cls[i].qs ps[i] (by simp [hi]) (by simp [hp])).2
  rw [he] at this
  exact fun a ha => (this a ha).1
theorem exp_len {now : Int} {cls : List Cl} {N t : Nat} {st : Bool} (ok : ScOk N cls t st) (h3 : cls.length = 3) : (expG now cls).length ≤ 3 * N := by
  obtain ⟨x, y, z, rfl⟩ := three h3
  have ox := (ok.ok x (by simp)).len; have oy := (ok.ok y (by simp)).len; have oz := (ok.ok z (by simp)).len
  have := List.length_filter_le (late now) x.qs
  have := List.length_filter_le (late now) y.qs
  have := List.length_filter_le (late now) z.qs
  unfold expG; simp; omega
theorem ps3 {ps : List LP} (h : ps.length = 3) : ∃ a b c, ps = [a, b, c] := three h
theorem off3 {h0 h : Go.Abs.H} {X : Ch} {L : List Ch} {b s N : Nat} {v : AV} {cls : List Cl} {ps : List LP} {turn : Int} {stale : Bool} (k : Hs h0 (Bk b ps (SL s v N cls turn stale (X :: L))) h) : Hs h0 (X :: SL s v N cls turn stale (Bk b ps L)) h := sl_out (bk_out_sl (sl_bk k))
theorem on3 {h0 h : Go.Abs.H} {X : Ch} {L : List Ch} {b s N : Nat} {v : AV} {cls : List Cl} {ps : List LP} {turn : Int} {stale : Bool} (k : Hs h0 (X :: SL s v N cls turn stale (Bk b ps L)) h) : Hs h0 (Bk b ps (SL s v N cls turn stale (X :: L))) h := bk_sl (bk_in_sl (sl_in k))

theorem law7 (h0 : Go.Abs.H) (l : List AV) (ho : HOk h0) (ha : Args h0 Try.prog Try.f7.params.toList l) : ∃ n h', callX env sums n 7 l h0 = some (.bool true, h') := by
  rw [pars7] at ha
  obtain ⟨v0, r0, rfl, a0, v1, r1, rfl, a1, rfl⟩ := ha
  obtain ⟨l0, rfl, hl0⟩ := arg_agg shape62' agg62' a0
  obtain ⟨_, _, rfl, ⟨x, rfl, x1, x2⟩, _, _, rfl, ⟨y, rfl, y1, y2⟩, _, _, rfl, ⟨z, rfl, z1, z2⟩, rfl⟩ := hl0
  have hs1 := arg_one shape71 agg71 a1
  obtain ⟨xs, hsl, hrow, hlen⟩ := sl_of_sh (by omega) hs1
  have hblk := sl_blk ho hs1
  have m1 : IntKind.min .u16 = 0 := rfl
  have m2 : IntKind.max .u16 = 65535 := rfl
  rw [m1] at x1 y1 z1; rw [m2] at x2 y2 z2
  obtain ⟨N, hN⟩ : ∃ N, N = 3000 := ⟨_, rfl⟩
  suffices hh : W.Spec env sums (N + 1) 7 [.agg [.int .u16 x, .int .u16 y, .int .u16 z], v1] h0 (fun r _ => r = .bool true) by
    obtain ⟨v, h', e, rfl⟩ := hh
    exact ⟨N + 1, h', e⟩
  obtain ⟨q0, hq0⟩ : ∃ q0 : Int, 96 + x.tmod 1000 = q0 := ⟨_, rfl⟩
  obtain ⟨q1, hq1⟩ : ∃ q1 : Int, 96 + y.tmod 500 = q1 := ⟨_, rfl⟩
  obtain ⟨q2, hq2⟩ : ∃ q2 : Int, 96 + z.tmod 50 = q2 := ⟨_, rfl⟩
  have hx : 96 ≤ q0 ∧ q0 ≤ 1095 := by rw [Int.tmod_eq_emod_of_nonneg x1] at hq0; omega
  have hy : 96 ≤ q1 ∧ q1 ≤ 595 := by rw [Int.tmod_eq_emod_of_nonneg y1] at hq1; omega
  have hz : 96 ≤ q2 ∧ q2 ≤ 145 := by rw [Int.tmod_eq_emod_of_nonneg z1] at hq2; omega
  have ar0 : arrI 3 0 = some 0 := rfl
  have ar1 : arrI 3 1 = some 1 := rfl
  have ar2 : arrI 3 2 = some 2 := rfl
  have c1000 : ¬ (1000 : Int) = 0 := by omega
  have c500 : ¬ (500 : Int) = 0 := by omega
  have c50 : ¬ (50 : Int) = 0 := by omega
  refine spec_trN [.agg [.int .u16 x, .int .u16 y, .int .u16 z], .v v1] rfl ft7 (by kernel_rfl) (tn7 ..) ?_
  by_cases h100 : (100 : Int) < xs.length
  · simp (disch := (first | omega | assumption | rfl | (simp only [hn_new, hn_put, skip_n]; omega))) only [go_sem, hsl.len, turned_ok (n := N) (by omega)]
  simp (disch := (first | omega | assumption | rfl | (simp only [hn_new, hn_put, skip_n]; omega))) only [go_sem, hsl.len, ar0, ar1, ar2, c1000, c500, c50, hq0, hq1, hq2, Nat.zero_mul]
  have k1 := ((Hs.start h0).new (.rows 3 [[.int .u16 x, .int .u16 y, .int .u16 z]] false none none)).new (.rows 1 (qrows [q0, q1, q2]) false none none)
  generalize hbb : (h0.new (.rows 3 [[.int .u16 x, .int .u16 y, .int .u16 z]] false none none)).n = b12 at k1
  have hb12 : h0.n + 1 = b12 := hbb
  rw [hb12]
  refine on2_exb (g := fun s : Nat => .tup [.ptr s 0, .int .i64 0]) (s_new (n := N) (b := b12) (N := 16) (qs := [q0, q1, q2]) (by omega) k1 (by simp) (by simp; omega) (by omega)) fun s h15 ⟨v, cls0, hf, k2⟩ => ?_
  have ok0 : ScOk 16 cls0 0 false := ScOk.fresh hf (by simp) (by simp; omega)
  generalize hLL : ([Cell h0.n (.rows 3 [[.int .u16 x, .int .u16 y, .int .u16 z]] false none none)] : List Ch) = LL at k2
  simp (disch := (first | omega | assumption | rfl | (simp only [hn_new, hn_put, skip_n]; omega))) only [go_sem]
  have k3 := ((k2.nil 1).nil 1).nil 1
  have k4 := (k3.new (.rows 3 [[.nils, .nils, .nils]] false none none))
  generalize hb19 : h15.n = b19 at k4 ⊢
  have k5 : Hs h0 (SL s v 16 cls0 0 false (Bk b19 [(.nils, []), (.nils, []), (.nils, [])] (Cell b12 (.rows 1 (qrows [q0, q1, q2]) false none none) :: LL))) _ :=
    k4.perm (List.perm_append_comm_assoc (Cell b19 (.rows 3 [[.nils, .nils, .nils]] false none none) :: lsm [(.nils, []), (.nils, []), (.nils, [])]) (ScC s v 0 false :: LsC 4 v (cls0.map Cl.row) :: rings 16 cls0) (Cell b12 (.rows 1 (qrows [q0, q1, q2]) false none none) :: LL))
  have hcl0 : cls0.length = 3 := by have := congrArg List.length hf.1; simpa using this
  have bk0 : Bks cls0 [(.nils, []), (.nils, []), (.nils, [])] := ⟨hcl0, rfl, fun i qs p h1 h2 => by
    rw [List.getElem?_map] at h1
    cases hc : cls0[i]? with
    | none => rw [hc] at h1; cases h1
    | some c =>
      rw [hc] at h1; cases h1
      have := (hf.2 c (List.mem_of_getElem? hc)).2.2
      have hp : p.2 = [] := by
        have : p ∈ [((.nils : AV), ([] : List Int)), (.nils, []), (.nils, [])] := List.mem_of_getElem? h2
        simp at this; rw [this]
      show Same i c.qs p.2
      rw [this, hp]; exact ⟨rfl, by simp⟩⟩
  have up0 : Ups 0 cls0 := by
    intro q hq
    rw [List.mem_map] at hq
    obtain ⟨c, hc, rfl⟩ := hq
    rw [(hf.2 c hc).2.2]
    exact ⟨List.Pairwise.nil, by simp⟩
  generalize hL2 : (Cell b12 (.rows 1 (qrows [q0, q1, q2]) false none none) :: LL) = L2 at k5
  clear hL2 k1 k2 k3 k4 hLL hbb hb12
  refine ⟨fun l m h => ∃ (i : Nat) (cls : List Cl) (ps : List LP) (t : Nat) (st : Bool), l = [.int .i64 i] ∧ m = xs.length - i ∧ i ≤ xs.length ∧ ScOk 16 cls t st ∧ Bks cls ps ∧ Ups i cls ∧ Hs h0 (SL s v 16 cls (t : Int) st (Bk b19 ps L2)) h, ⟨xs.length, by omega, 0, cls0, _, 0, false, rfl, by omega, by omega, ok0, bk0, up0, k5⟩, ?_⟩
  clear ok0 bk0 up0 k5 hcl0 hf
  intro n23 m24 h25 ⟨i, cls, ps, t, st, e, hm, hi, ok, bk, up, k25⟩
  cases e; subst hm
  have hslh : SlR h25 3 v1 xs := hsl.keep fun b hb => k25.ext.2 b (hblk b hb)
  by_cases hlt : (i : Int) < xs.length
  rotate_left
  · simp (disch := (first | omega | assumption | rfl | (simp only [hn_new, hn_put, skip_n]; omega))) only [go_sem, hslh.len, turned_ok (n := N) (by omega)]
  obtain ⟨r, hr⟩ : ∃ r, xs[i]? = some r := ⟨xs[i], List.getElem?_eq_getElem (by omega)⟩
  obtain ⟨ra, rb, rc, rfl, u1, u2, u3, u4⟩ := act_row (hrow r (List.mem_of_getElem? hr))
  obtain ⟨b, o, p1, _, p3, _⟩ := hslh.idx hr
  have g0 : cellG o (h25.get b) = some (.int .u8 ra) := by have := p3 0 (by omega); rw [cellQ_some _ _ _ (by omega)] at this; exact this
  have g1 : cellG (o + 1) (h25.get b) = some (.int .u8 rb) := by have := p3 1 (by omega); rw [cellQ_some _ _ _ (by omega)] at this; exact this
  have g2 : cellG (o + 2) (h25.get b) = some (.bool rc) := by have := p3 2 (by omega); rw [cellQ_some _ _ _ (by omega)] at this; exact this
  obtain ⟨c, hc⟩ : ∃ c : Nat, ra.tmod 3 = c := ⟨(ra.tmod 3).toNat, by rw [Int.tmod_eq_emod_of_nonneg u1]; omega⟩
  obtain ⟨zb, hzb⟩ : ∃ zb : Nat, rb.tmod 64 = zb := ⟨(rb.tmod 64).toNat, by rw [Int.tmod_eq_emod_of_nonneg u3]; omega⟩
  have hc3 : c < 3 := by rw [Int.tmod_eq_emod_of_nonneg u1] at hc; omega
  have hz64 : zb < 64 := by rw [Int.tmod_eq_emod_of_nonneg u3] at hzb; omega
  have c3 : ¬ (3 : Int) = 0 := by omega
  have c64 : ¬ (64 : Int) = 0 := by omega
  simp (disch := (first | omega | assumption | rfl | (simp only [hn_new, hn_put, skip_n]; omega))) only [go_sem, hslh.len, p1, g0, c3, hc]
  refine ⟨fun l h => l = [] ∧ ∃ (cls : List Cl) (ps : List LP) (t : Nat) (st : Bool), ScOk 16 cls t st ∧ Bks cls ps ∧ Ups (i + 1 : Nat) cls ∧ Hs h0 (SL s v 16 cls (t : Int) st (Bk b19 ps L2)) h, ?_, ?_⟩
  rotate_left
  · -- what the books say is what waits
    intro h147 ⟨_, cls, ps, t, st, ok, bk, up, k147⟩
    refine ⟨fun l m h => ∃ j : Nat, l = [.int .i64 j] ∧ m = 3 - j ∧ j ≤ 3 ∧ Hs h0 (SL s v 16 cls (t : Int) st (Bk b19 ps L2)) h, ⟨3, by omega, 0, rfl, by omega, by omega, k147⟩, ?_⟩
    intro n150 m151 h152 ⟨j, e, hm, hj, k152⟩
    cases e; subst hm
    by_cases hj3 : (j : Int) < 3
    · obtain ⟨cj, hcj⟩ : ∃ cj, cls[j]? = some cj := ⟨cls[j]'(by rw [bk.1]; omega), List.getElem?_eq_getElem _⟩
      obtain ⟨pj, hpj⟩ : ∃ pj, ps[j]? = some pj := ⟨ps[j]'(by rw [bk.2.1]; omega), List.getElem?_eq_getElem _⟩
      have hs := (bk.2.2 j cj.qs pj (QS_get hcj) hpj).1
      have hpl : pj.2.length = cj.qs.length := by rw [← hs]; simp
      have at' := bk_at (bk_sl k152) bk.2.1 hpj
      have k154 := k152.more ((Keep.refl _ _).skip 8)
      simp (disch := (first | omega | assumption | rfl | (simp only [hn_new, hn_put, skip_n]; omega))) only [go_sem, s_len (n := N) (by omega) k154 hcj, at'.arr, at'.get, at'.len, hpl, (lp_out hpj (bk_sl k152)).samev]
      exact ⟨3 - (j + 1), by omega, j + 1, by simp, rfl, by omega, k154⟩
    · simp (disch := (first | omega | assumption | rfl | (simp only [hn_new, hn_put, skip_n]; omega))) only [go_sem]
      exact ⟨xs.length - (i + 1), by omega, i + 1, cls, ps, t, st, by simp, rfl, by omega, ok, bk, up, k152⟩
  have hcl3 := bk.1
  have hps3 := bk.2.1
  by_cases hexp : 220 < rb
  · -- what is late
    obtain ⟨now, hnow⟩ : ∃ now : Int, (i : Int) - 3 = now := ⟨_, rfl⟩
    simp (disch := (first | omega | assumption | rfl | (simp only [hn_new, hn_put, skip_n]; omega))) only [go_sem, p1, g1, hnow]
    refine on2_ex2 (s_expire (n := N) (now := now) (by omega) k25 ok.ne ok.le (by omega) (fun c hc => ⟨(ok.ok c hc).len, bks_aok bk c hc⟩)) fun vg h35 ⟨gs, hgs, k35⟩ => ?_
    have hgl : gs.length ≤ 48 := by
      have := exp_len (now := now) ok hcl3
      rw [← hgs, List.length_map] at this; omega
    refine ⟨fun l m h => ∃ (a c : Nat) (ps' : List LP), l = [.int .i64 a, .int .i64 c] ∧ m = 3 - c ∧ c ≤ 3 ∧ a = (expG now (cls.take c)).length ∧ BkE now cls c ps' ∧ Hs h0 (Bk b19 ps' (SL s v 16 (cls.map (expC now)) (t : Int) st (LsC 29 vg (gs.map Fr.cs) :: L2))) h, ⟨3, by omega, 0, 0, ps, rfl, by omega, by omega, by simp [expG], bke_start bk, on3 k35⟩, ?_⟩
    intro n38 n39 m40 h41 ⟨a, c', ps', e, hm, hc', ha, bke, k41⟩
    cases e; subst hm
    have hvl : lenS vg = some gs.length := by have := (off3 k41).sl.len; simpa using this
    by_cases hlt' : (c' : Int) < 3
    rotate_left
    · have hce : c' = 3 := by omega
      subst hce
      have hag : a = gs.length := by rw [ha, List.take_of_length_le (by omega), ← hgs, List.length_map]
      subst hag
      simp (disch := (first | omega | assumption | rfl | (simp only [hn_new, hn_put, skip_n]; omega))) only [go_sem, hvl]
      exact ⟨cls.map (expC now), ps', t, st, ok.exp now, bke_end bk bke, up.exp.mono (by omega), (off3 k41).drop⟩
    obtain ⟨cl, hcl⟩ : ∃ cl, cls[c']? = some cl := ⟨cls[c']'(by omega), List.getElem?_eq_getElem _⟩
    have hq := QS_get hcl
    obtain ⟨pc, hpc⟩ : ∃ pc, ps'[c']? = some pc := ⟨ps'[c']'(by rw [bke.1]; omega), List.getElem?_eq_getElem _⟩
    have hp2 : pc.2 = sqs cl.qs := by
      rw [bke.2 c' cl.qs pc hq hpc]; unfold bkOf; rw [if_neg (by omega)]
    have hql := (ok.ok cl (List.mem_of_getElem? hcl)).len
    have hupq := up cl.qs (List.mem_of_getElem? hq)
    obtain ⟨pc0, hpc0⟩ : ∃ pc0, ps[c']? = some pc0 := ⟨ps[c']'(by rw [hps3]; omega), List.getElem?_eq_getElem _⟩
    have hsm := (bk.2.2 c' cl.qs pc0 hq hpc0).2
    have arc := arr3 (show c' < 3 by omega)
    simp (disch := (first | omega | assumption | rfl | (simp only [hn_new, hn_put, skip_n]; omega))) only [go_sem]
    refine ⟨fun l m h => ∃ (d r : List AF) (ps'' : List LP) (w : AV), l = [.int .i64 (a + d.length : Nat)] ∧ m = r.length ∧ cl.qs = d ++ r ∧ (∀ x ∈ d, late now x = true) ∧ (ps''.length = 3 ∧ ∀ (i : Nat) (q : List AF) (p : LP), i ≠ c' → (QS cls)[i]? = some q → ps''[i]? = some p → p.2 = bkOf now c' i q) ∧ ps''[c']? = some (w, sqs r) ∧ Hs h0 (Bk b19 ps'' (SL s v 16 (cls.map (expC now)) (t : Int) st (LsC 29 vg (gs.map Fr.cs) :: L2))) h, ⟨cl.qs.length, by omega, [], cl.qs, ps', pc.1, rfl, rfl, rfl, by simp, ⟨bke.1, fun i q p _ h1 h2 => bke.2 i q p h1 h2⟩, by rw [hpc, ← hp2], k41⟩, ?_⟩
    intro n44 m45 h46 ⟨d, r, ps'', w, e, hm, hdr, hd, hps'', hw, k46⟩
    cases e; subst hm
    have at' := bk_at k46 hps''.1 hw
    have stop : (∀ (x : AF) (r' : List AF), r = x :: r' → late now x = false) → ∃ m', m' < 3 - c' ∧ ∃ (a' c'' : Nat) (ps' : List LP), [AV.int .i64 (a + d.length : Nat), .int .i64 ((c' : Int) + 1)] = [.int .i64 a', .int .i64 c''] ∧ m' = 3 - c'' ∧ c'' ≤ 3 ∧ a' = (expG now (cls.take c'')).length ∧ BkE now cls c'' ps' ∧ Hs h0 (Bk b19 ps' (SL s v 16 (cls.map (expC now)) (t : Int) st (LsC 29 vg (gs.map Fr.cs) :: L2))) h46 := by
      intro hr
      rw [hdr] at hupq
      obtain ⟨f1, f2⟩ := hupq.part hd hr
      refine ⟨3 - (c' + 1), by omega, a + d.length, c' + 1, ps'', by simp, rfl, by omega, ?_, bke_set hps'' hq hw ?_, k46⟩
      · rw [exp_step hcl, List.length_append, hdr, f1, ha]
      · show sqs r = sqs _
        rw [hdr, f2]
    cases r with
    | nil =>
      have hl0 : lenS w = some 0 := at'.len
      have hdl : d.length ≤ 16 := by rw [hdr] at hql; simpa using hql
      simp (disch := (first | omega | assumption | rfl | (simp only [hn_new, hn_put, skip_n]; omega))) only [go_sem, at'.arr, at'.get, hl0]
      exact stop (by simp)
    | cons x r' =>
      have hdl : d.length ≤ 16 := by rw [hdr] at hql; simp at hql; omega
      have hl1 : lenS w = some (sqs (x :: r')).length := at'.len
      have hpos : (0 : Int) < (sqs (x :: r')).length := by simp [sqs]
      obtain ⟨b', o', e1, e2⟩ := bk_head k46 hw (x := sq x) (xs := sqs r') rfl
      by_cases hlx : sq x < now
      rotate_left
      · simp (disch := (first | omega | assumption | rfl | (simp only [hn_new, hn_put, skip_n]; omega))) only [go_sem, at'.arr, at'.get, hl1, hpos, e1, e2]
        refine stop fun y r'' hy => ?_
        cases hy
        unfold late
        rw [(hupq.2 x (by rw [hdr]; simp)).1]
        exact decide_eq_false hlx
      have hla : late now x = true := by
        unfold late
        rw [(hupq.2 x (by rw [hdr]; simp)).1]
        exact decide_eq_true hlx
      have hat := exp_at hcl hdr hd hla
      rw [← ha, ← hgs, List.getElem?_map, Option.map_eq_some_iff] at hat
      obtain ⟨g, hg, hga⟩ := hat
      have hglt := (List.getElem?_eq_some_iff.1 hg).1
      obtain ⟨hx1, hx2⟩ := hsm x (by rw [hdr]; simp)
      have r5 : nth g.cs 5 = some (.int .i64 c') := by rw [fr_nth g (by omega), hga, hx1.cls, hx2]
      have r3 : nth g.cs 3 = some (.int .i64 (sq x)) := by rw [fr_nth g (by omega), hga, hx1.seq]; rfl
      obtain ⟨bg, og, y1, _, y3, _⟩ := (off3 k46).sl.idx (i := a + d.length) (r := g.cs) (by rw [List.getElem?_map, hg]; rfl)
      have z3 : cellG (og + 3) (h46.get bg) = some (.int .i64 (sq x)) := by have := y3 3 (by omega); rw [cellQ_some _ _ _ (by omega), r3] at this; exact this
      have z5 : cellG (og + 5) (h46.get bg) = some (.int .i64 c') := by have := y3 5 (by omega); rw [cellQ_some _ _ _ (by omega), r5] at this; exact this
      have k70 := (k46.more ((Keep.refl _ _).skip 26)).more ((Keep.refl _ _).skip 10)
      obtain ⟨w', h75, w1, w2, w3, w4, w5⟩ := bk_cut k70 hps''.1 hw (x := sq x) (xs := sqs r') rfl
      rw [skip_get, skip_get] at w3
      have nle : ¬ (gs.length : Int) ≤ ((a + d.length : Nat) : Int) := by omega
      simp (disch := (first | omega | assumption | rfl | (simp only [hn_new, hn_put, skip_n]; omega))) only [go_sem, at'.arr, at'.get, hl1, hpos, e1, e2, hvl, nle, y1, z3, z5, w1, w2, w3]
      refine ⟨r'.length, by simp, d ++ [x], r', ps''.set c' (w', sqs r'), w', by simp [Int.add_assoc], rfl, by rw [hdr]; simp, ?_, ⟨by simpa using hps''.1, fun i q p hi h1 h2 => ?_⟩, ?_, w4⟩
      · intro y hy
        rcases List.mem_append.1 hy with hy | hy
        · exact hd y hy
        · rw [List.mem_singleton] at hy; subst hy; exact hla
      · rw [List.getElem?_set_ne (Ne.symm hi)] at h2
        exact hps''.2 i q p hi h1 h2
      · exact List.getElem?_set_self (by have := hps''.1; omega)
  have c220 : ¬ (220 : Int) < rb := hexp
  cases rc
  rotate_left
  · -- the next one is taken out
    simp (disch := (first | omega | assumption | rfl | (simp only [hn_new, hn_put, skip_n]; omega))) only [go_sem, p1, g1, g2, c220]
    have hpop : (∃ c ∈ cls, c.qs ≠ []) ∨ ∀ c ∈ cls, c.qs = [] := by
      rcases Nat.eq_zero_or_pos (many ps) with h | h
      · exact .inr (qs_none bk h)
      · exact .inl (qs_any bk h)
    obtain ⟨p0, p1', p2, hps⟩ := ps3 hps3
    have y0 : ps[0]? = some p0 := by rw [hps]; rfl
    have y1 : ps[1]? = some p1' := by rw [hps]; rfl
    have y2 : ps[2]? = some p2 := by rw [hps]; rfl
    have hmany : many ps = p0.2.length + (p1'.2.length + p2.2.length) := by rw [hps]; simp [many]
    have hle : p0.2.length ≤ 16 ∧ p1'.2.length ≤ 16 ∧ p2.2.length ≤ 16 := by
      have : ∀ (j : Nat) (p : LP), ps[j]? = some p → p.2.length ≤ 16 := by
        intro j p hp
        have hj := (List.getElem?_eq_some_iff.1 hp).1
        have hcj : cls[j]? = some (cls[j]'(by omega)) := List.getElem?_eq_getElem _
        rw [← (bk.2.2 j _ p (QS_get hcj) hp).1, List.length_map]
        exact (ok.ok _ (List.mem_of_getElem? hcj)).len
      exact ⟨this 0 p0 y0, this 1 p1' y1, this 2 p2 y2⟩
    rcases hpop with hpop | hnone
    rotate_left
    · have h00 : p0.2.length = 0 ∧ p1'.2.length = 0 ∧ p2.2.length = 0 := by
        have : ∀ (j : Nat) (p : LP), ps[j]? = some p → p.2.length = 0 := by
          intro j p hp
          have hj := (List.getElem?_eq_some_iff.1 hp).1
          have hcj : cls[j]? = some (cls[j]'(by omega)) := List.getElem?_eq_getElem _
          rw [← (bk.2.2 j _ p (QS_get hcj) hp).1, List.length_map, hnone _ (List.mem_of_getElem? hcj)]; rfl
        exact ⟨this 0 p0 y0, this 1 p1' y1, this 2 p2 y2⟩
      refine on2_ex (pop_none (n := N) (by omega) k25 ok hnone) fun h81 k81 => ?_
      have k88 := sl_in ((k81.new (.rows 29 [zeroC] false none none)).put (.rows 29 [zeroC] false none none))
      have kb := bk_sl (bk_in_sl k88)
      have a0 := bk_at kb hps3 y0
      have a1 := bk_at kb hps3 y1
      have a2 := bk_at kb hps3 y2
      have ov : over zeroC zeroC = some zeroC := over_full rfl
      simp (disch := (first | omega | assumption | rfl | (simp only [hn_new, hn_put, skip_n]; omega))) only [go_sem, show zeroC.length = 29 from rfl, ov, ar0, ar1, ar2, a0.get, a1.get, a2.get, a0.len, a1.len, a2.len, h00.1, h00.2.1, h00.2.2]
      exact ⟨cls, ps, t, st, ok, bk, up.mono (by omega), (sl_out k88).drop⟩
    refine on2_ex2 (pop_some (n := N) (by omega) k25 ok hpop) fun xx h81 ⟨g, j, cls', t', st', hxx, hp, ok', k81⟩ => ?_
    subst hxx
    obtain ⟨hqq', rest, hqj, hqs'⟩ := pop_head hp
    have hj3 : j < 3 := by have := (List.getElem?_eq_some_iff.1 hqj).1; rw [List.length_map, bk.1] at this; exact this
    obtain ⟨pj, hpj⟩ : ∃ pj, ps[j]? = some pj := ⟨ps[j]'(by rw [bk.2.1]; exact hj3), List.getElem?_eq_getElem _⟩
    have hsame := bk.2.2 j _ pj hqj hpj
    obtain ⟨ha1, ha2⟩ := hsame.2 (af g) (by simp)
    have hp2 : pj.2 = cI (af g).1 3 :: rest.map (fun a => cI a.1 3) := by rw [← hsame.1]; rfl
    have ov : over g.cs zeroC = some g.cs := over_full g.len
    have r5 : nth g.cs 5 = some (.int .i64 j) := by rw [fr_nth g (by omega), ha1.cls, ha2]
    have r3 : nth g.cs 3 = some (.int .i64 (cI (af g).1 3)) := by rw [fr_nth g (by omega), ha1.seq]
    have k88 := sl_in ((k81.new (.rows 29 [zeroC] false none none)).put (.rows 29 [g.cs] false none none))
    have kb := bk_sl (bk_in_sl k88)
    have a0 := bk_at kb hps3 y0
    have a1 := bk_at kb hps3 y1
    have a2 := bk_at kb hps3 y2
    have at' := bk_at kb hps3 hpj
    obtain ⟨b', o', e1, e2⟩ := bk_head kb hpj hp2
    have hne : ¬ (pj.2.length : Int) = 0 := by rw [hp2]; simp; omega
    have hpos : (0 : Int) < (p0.2.length : Int) + p1'.2.length + p2.2.length := by
      have := set_sum (fun p : LP => p.2.length) (y := (pj.1, ([] : List Int))) hpj
      unfold many at hmany
      simp only [List.length_nil] at this
      omega
    have k114 := bk_sl (bk_in_sl ((k88.more ((Keep.refl _ _).skip 27)).more ((Keep.refl _ _).skip 9)))
    obtain ⟨w, h121, w1, w2, w3, w4, w5⟩ := bk_cut k114 bk.2.1 hpj hp2
    rw [skip_get, skip_get] at w3
    have hjn : ¬ (j : Int) < 0 := by omega
    have hj2 : ¬ (2 : Int) < j := by omega
    simp (disch := (first | omega | assumption | rfl | (simp only [hn_new, hn_put, skip_n]; omega))) only [go_sem, g.len, ov, ar0, ar1, ar2, a0.get, a1.get, a2.get, a0.len, a1.len, a2.len, hpos, r5, r3, hjn, hj2, at'.arr, at'.get, at'.len, hne, e1, e2, w1, w2, w3]
    have kk := (sl_out (bk_out_sl (sl_bk w4))).drop
    exact ⟨cls', _, t', st', ok', bks_set (cls' := cls') (p := (w, rest.map (fun a => cI a.1 3))) bk hqs' ⟨rfl, fun a ha => hsame.2 a (by simp [ha])⟩, (up.set hqs' ((up _ (List.mem_of_getElem? hqj)).sub (List.sublist_cons_self ..) (Int.le_refl _))).mono (by omega), kk⟩
  · -- one more
    simp (disch := (first | omega | assumption | rfl | (simp only [hn_new, hn_put, skip_n]; omega))) only [go_sem, p1, g0, g1, g2, c220, c64, hzb, hc]
    refine on2_ex (put_y (n := N) (by omega) c i (z := zb) (by omega)) fun h126 kp => ?_
    have k126 := k25.more kp
    have ov : over (req c i 9 [107] (List.replicate zb 0)).cs zeroC = some (req c i 9 [107] (List.replicate zb 0)).cs := over_full (req c i 9 [107] (List.replicate zb 0)).len
    have hset : (req c i 9 [107] (List.replicate zb 0)).cs.set 6 (.int .i64 i) = (req c i i [107] (List.replicate zb 0)).cs := rfl
    have hst : ∀ (h : Go.Abs.H) (b : Nat), storeB h b 6 [.int .i64 i] (some (.rows 29 [(req c i 9 [107] (List.replicate zb 0)).cs] false none none)) = some (h.put b (.rows 29 [(req c i i [107] (List.replicate zb 0)).cs] false none none)) := by
      intro h b
      have := storeB_one (b := b) (i := 6) (x := .int .i64 i) h (r := (req c i 9 [107] (List.replicate zb 0)).cs) (by rw [Fr.len]; omega)
      rw [Fr.len, hset] at this
      exact this
    have k131 := sl_in (((k126.new (.rows 29 [zeroC] false none none)).put (.rows 29 [(req c i 9 [107] (List.replicate zb 0)).cs] false none none)).put (.rows 29 [(req c i i [107] (List.replicate zb 0)).cs] false none none))
    simp (disch := (first | omega | assumption | rfl | (simp only [hn_new, hn_put, skip_n]; omega))) only [go_sem, Fr.len, ov, hst]
    have hcl : c < cls.length := by omega
    have hcc : cls[c]? = some cls[c] := List.getElem?_eq_getElem hcl
    generalize cls[c] = cc at hcc
    obtain ⟨pc, hpc⟩ : ∃ pc, ps[c]? = some pc := ⟨ps[c]'(by omega), List.getElem?_eq_getElem _⟩
    have hsame := bk.2.2 c cc.qs pc (QS_get hcc) hpc
    have hpcl : pc.2.length = cc.qs.length := by rw [← hsame.1]; simp
    have hccl := (ok.ok cc (List.mem_of_getElem? hcc)).len
    refine on2_ex (s_push (n := N) (by omega) k131 hcc (req c i i [107] (List.replicate zb 0)) rfl (req_ok (by simp) (by simp) (by simp; omega))) fun h134 k134 => ?_
    by_cases hfull : cc.qs.length < 16
    · simp only [if_pos hfull] at k134 ⊢
      have kb := bk_sl (bk_in_sl k134)
      have at' := bk_at kb hps3 hpc
      obtain ⟨v', h139, q1', q2', q3', _⟩ := kb.clone (es := 1) (by omega) 8 (.inl rfl) (lp_out hpc kb).sl (by simp [qrows]; omega) (by simp [qrows]; omega)
      have kn := q2'.new (.rows 1 [[.int .i64 i]] false none none)
      obtain ⟨v'', h143, s1, s2, s3⟩ := kn.at2.app (by omega) 8 (rows_one kn.get (by omega) 1) (by simp [qrows]; omega) (by simp [qrows]; omega)
      have e : qrows pc.2 ++ [[AV.int .i64 i]] = qrows (pc.2 ++ [(i : Int)]) := by simp [qrows]
      have s4 := s2.at2.drop
      rw [e] at s4
      obtain ⟨t1, h145, t2, t3⟩ := bk_put s4 (i := c) (by omega) hps3
      simp (disch := (first | omega | assumption | rfl | (simp only [hn_new, hn_put, skip_n]; omega))) only [go_sem, at'.arr, at'.get, q1', s1, t1, t2]
      have kk := (sl_out (bk_out_sl (sl_bk t3))).drop
      exact ⟨_, _, t, st, ok.push hcc hfull (req_ok (by simp) (by simp) (by simp; omega)), bks_set bk (i := c) (qs := cc.qs ++ [af (req c i i [107] (List.replicate zb 0))]) (by rw [QS, List.map_set]) (same_push hsame (req_aok ..) rfl rfl), (up.mono (by omega)).set (c := c) (q := cc.qs ++ [af (req c i i [107] (List.replicate zb 0))]) (by rw [QS, List.map_set]) ((up _ (List.mem_of_getElem? (QS_get hcc))).push rfl rfl), kk⟩
    · simp only [if_neg hfull] at k134 ⊢
      have c60 : ¬ (60 : Int) = 0 := by omega
      simp (disch := (first | omega | assumption | rfl | (simp only [hn_new, hn_put, skip_n]; omega))) only [go_sem, c60]
      exact ⟨cls, ps, t, st, ok, bk, up.mono (by omega), (sl_out k134).drop⟩
end Go.Proofs.Ytdncenepmkbolaa
