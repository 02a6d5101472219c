/-
  'ReadsPlay': the law's run, whatever is handed in.
-/
import Derived.Test.YtpfgbnmeaalpdaaReadL
namespace Go.Proofs.Ytpfgbnmeaalpdaa
open Go Go.Abs Go.Abs.S Go.Abs.W
set_option maxRecDepth 10000
set_option maxHeartbeats 2000000

abbrev zero35 : List AV := [AV.int IntKind.u8 (0 : Int), AV.int IntKind.i64 (0 : Int), AV.int IntKind.i64 (0 : Int), AV.int IntKind.i64 (0 : Int), AV.int IntKind.i64 (0 : Int), AV.int IntKind.i64 (0 : Int), AV.int IntKind.i64 (0 : Int), AV.int IntKind.i64 (0 : Int), AV.int IntKind.i64 (0 : Int), AV.str [], AV.str [], AV.int IntKind.i64 (0 : Int), AV.int IntKind.i64 (0 : Int), AV.str [], AV.int IntKind.i64 (0 : Int), AV.int IntKind.i64 (0 : Int), AV.int IntKind.i64 (0 : Int), AV.int IntKind.i64 (0 : Int), AV.int IntKind.i64 (0 : Int), AV.int IntKind.i64 (0 : Int), AV.int IntKind.i64 (0 : Int), AV.str [], AV.str [], AV.int IntKind.i64 (0 : Int), AV.int IntKind.i64 (0 : Int), AV.nils, AV.int IntKind.i64 (0 : Int), AV.int IntKind.i64 (0 : Int), AV.int IntKind.i64 (0 : Int), AV.int IntKind.i64 (0 : Int), AV.int IntKind.i64 (0 : Int), AV.str [], AV.int IntKind.i64 (0 : Int), AV.int IntKind.i64 (0 : Int), AV.int IntKind.i64 (0 : Int)]
theorem agg22 : aggT Try.prog 22 = false := by kernel_rfl
theorem agg3 : aggT Try.prog 3 = false := by kernel_rfl
theorem shape3 : shapeOf Try.prog 9 3 = some [.int .i64] := by kernel_rfl
theorem pars4 : Try.f4.params.toList = [3, 22] := by kernel_rfl
theorem eqn25n : binop env .eql 25 .nilp .nilp = some (.bool true) := by kernel_rfl
theorem waited_ok {n : Nat} (hn : 1 ≤ n) (h : Go.Abs.H) : callX env sums n 10 [] h = some (.bool true, h) := by
  obtain ⟨n, rfl⟩ : ∃ k, n = k + 1 := ⟨n - 1, by omega⟩
  rfl

section
variable {h0 h : Go.Abs.H} {N r q m : Nat} {cap last : Int} {rows : List (List AV)} {x : List AV}

/-- what both have, ahead of each turn -/
structure Both (h0 : Go.Abs.H) (r q : Nat) (cap last : Int) (rows : List (List AV)) (L : List Ch) (h : Go.Abs.H) : Prop where
  has : Hs h0 (RdC r cap last rows :: RdC q cap last rows :: L) h
  good : Good last rows

theorem same_lists {L : List Ch} {a b : AV} {rs : List (List AV)} {last : Int} (hN : 1100 ≤ N) (k : Hs h0 L h) (g : Good last rs) (ha : SlR h 34 a rs) (hb : SlR h 34 b rs) (la : ∀ x, blkOf a = some x → x < h.n) (lb : ∀ x, blkOf b = some x → x < h.n) (hl : rs.length ≤ 1000) :
    ∃ h', callX env sums N 18 [a, b] h = some (.bool true, h') ∧ Hs h0 L h' := by
  obtain ⟨h', e, kp⟩ := same_ok (n := N) (by omega) ha hb la lb g.row hl
  exact ⟨h', e, k.more kp⟩
end
theorem law4 (h0 : Go.Abs.H) (l : List AV) (ho : HOk h0) (ha : Args h0 Try.prog Try.f4.params.toList l) : ∃ n h', callX env sums n 4 l h0 = some (.bool true, h') := by
  rw [pars4] at ha
  obtain ⟨v0, r0, rfl, a0, v1, r1, rfl, a1, rfl⟩ := ha
  obtain ⟨cap, rfl, hc1, hc2⟩ := arg_one shape3 agg3 a0
  have hs1 := arg_one shape22 agg22 a1
  obtain ⟨xs, hsl, hrow, hlen⟩ := sl_of_sh (by omega) hs1
  have hblk := sl_blk ho hs1
  obtain ⟨N, hN⟩ : ∃ N, N = xs.length + 3000 := ⟨_, rfl⟩
  suffices hh : W.Spec env sums (N + 1) 4 [.int .i64 cap, v1] h0 (fun r _ => r = .bool true) by
    obtain ⟨v, h', e, rfl⟩ := hh
    exact ⟨N + 1, h', e⟩
  refine spec_trN [.int .i64 cap, .v v1] rfl ft4 (by kernel_rfl) (tn4 ..) ?_
  obtain ⟨b, e1, hb⟩ := great2 (n := N) (by omega) hsl hrow hlen 120
  cases b with
  | true =>
    simp (disch := (first | omega | assumption | rfl | (simp only [hn_new, hn_put, skip_n]; omega))) only [go_sem, e1, waited_ok (n := N) (by omega)]
  | false =>
  have h120 := hb rfl
  by_cases hcap : 1 ≤ cap ∧ cap ≤ 16
  rotate_left
  · simp (disch := (first | omega | assumption | rfl | (simp only [hn_new, hn_put, skip_n]; omega))) only [go_sem, e1, new_p (n := N) (by omega), new_q (n := N) (by omega), if_neg hcap, eqn25n, waited_ok (n := N) (by omega)]
  simp (disch := (first | omega | assumption | rfl | (simp only [hn_new, hn_put, skip_n]; omega))) only [go_sem, e1, new_p (n := N) (by omega), new_q (n := N) (by omega), if_pos hcap]
  have k1 := new_has (Hs.start h0) (cap := cap) hcap.1
  have k2 := new_has k1 (cap := cap) hcap.1
  rw [hn_new] at k2
  generalize hh2 : (h0.new (Blk.rows 3 [[AV.int IntKind.i64 cap, AV.nils, AV.int IntKind.i64 0]] false none none)).new (Blk.rows 3 [[AV.int IntKind.i64 cap, AV.nils, AV.int IntKind.i64 0]] false none none) = h2 at k2 ⊢
  generalize hq : h0.n + 1 = q at k2 ⊢
  generalize hr : h0.n = r at k2 ⊢
  refine ⟨fun l m h => ∃ (i : Nat) (last : Int) (rows : List (List AV)), l = [.int .i64 i] ∧ m = xs.length - i ∧ i ≤ xs.length ∧ Both h0 r q cap last rows [] h ∧ 0 ≤ last ∧ last ≤ i ∧ (rows.length : Int) ≤ i, ⟨xs.length, by omega, 0, 0, [], rfl, by omega, by omega, ⟨k2.at2, ⟨by simp, by simp, by simp⟩⟩, by omega, by omega, by simp⟩, ?_⟩
  intro n28 m29 h30 ⟨i, last, rows, e, hm, hi, hB, l0, l1, l2⟩
  cases e; subst hm
  have hx := hB.has.ext
  have hslh : SlR h30 35 v1 xs := hsl.keep fun b hb => hx.2 b (hblk b hb)
  by_cases hlt : (i : Int) < xs.length
  · obtain ⟨x, hxi⟩ : ∃ x, xs[i]? = some x := ⟨xs[i], List.getElem?_eq_getElem (by omega)⟩
    have hsh := hrow x (List.mem_of_getElem? hxi)
    have xl : x.length = 35 := by rw [ShL.length hsh, salen]
    obtain ⟨b, o, p1, p2, _, _⟩ := hslh.idx hxi
    simp (disch := (first | omega | assumption | rfl | (simp only [hn_new, hn_put, skip_n]; omega))) only [go_sem, hslh.len, p1, p2, xl, over_full]
    generalize hz : Blk.rows 35 [zero35] false none none = bz
    have k3 := (hB.has.new bz).put (.rows 35 [x] false none none)
    generalize hh37 : (h30.new bz).put h30.n (.rows 35 [x] false none none) = h37 at k3 ⊢
    generalize hb35 : h30.n = b35 at k3 ⊢
    have r100 : rows.length ≤ 1000 := by omega
    obtain ⟨_, f0, kd, rfl, kd0, kd1⟩ := shl_nth _ _ _ _ hsh sa0
    obtain ⟨_, f34, nn, rfl, nn0, nn1⟩ := shl_nth _ _ _ _ hsh sa34
    have no9 : ¬ (9 : Int) = 0 := by omega
    refine ⟨fun l h => l = [.bool true] ∧ ∃ last' rows', Both h0 r q cap last' rows' [] h ∧ 0 ≤ last' ∧ last' ≤ i + 1 ∧ (rows'.length : Int) ≤ i + 1, ?_, ?_⟩
    · -- one act
      have g := k3.get
      by_cases c5 : kd.tmod 9 = 5
      · have k4 := k3.more ((Keep.refl _ _).skip 10)
        simp (disch := (first | omega | assumption | rfl | (simp only [hn_new, hn_put, skip_n]; omega))) only [go_sem, g, f0, no9, c5, f34]
        refine on2_ex2 (sure_h (by omega) k4.at2 hB.good.rows nn) fun v43 h44 k5 => ?_
        have g5 := Hs.get (Hs.at3 k5)
        simp (disch := (first | omega | assumption | rfl | (simp only [hn_new, hn_put, skip_n]; omega))) only [go_sem, g5, f34]
        refine on2_ex2 (sure_q (by omega) (Hs.at4 k5) hB.good.rows nn) fun v46 h47 ⟨s1, s2, k6⟩ => ?_
        obtain ⟨w1, w2⟩ := while_up (x := nn) hB.good.rows hB.good.up
        rw [← w1] at s1
        rw [← w2] at k6
        have hsub := List.filter_sublist (l := rows) (p := fun y => !idI (fun a => decide (a ≤ nn)) y)
        refine on2_ex (same_lists (by omega) k6 (hB.good.sub List.filter_sublist) k6.at2.sl s1 k6.at2.blt s2 (Nat.le_trans (List.length_filter_le ..) r100)) fun h49 k7 => ?_
        simp (disch := (first | omega | assumption | rfl | (simp only [hn_new, hn_put, skip_n]; omega))) only [go_sem, g, f34]
        exact ⟨last, _, ⟨k7.at2.drop.at3.drop.at2, hB.good.sub hsub⟩, l0, by omega, by have := hsub.length_le; omega⟩
      by_cases c6 : kd.tmod 9 = 6
      · have k4 := k3.more ((Keep.refl _ _).skip 10)
        simp (disch := (first | omega | assumption | rfl | (simp only [hn_new, hn_put, skip_n]; omega))) only [go_sem, g, f0, no9, c6, f34]
        refine on2_ex2 (expire_h (by omega) k4.at2 hB.good.rows nn) fun v43 h44 k5 => ?_
        have g5 := Hs.get (Hs.at3 k5)
        simp (disch := (first | omega | assumption | rfl | (simp only [hn_new, hn_put, skip_n]; omega))) only [go_sem, g5, f34]
        refine on2_ex2 (expire_q (by omega) (Hs.at4 k5) hB.good.rows nn) fun v46 h47 k6 => ?_
        have k6 : Hs h0 _ h47 := k6
        have hsub := List.filter_sublist (l := rows) (p := fun y => !dlI (fun a => decide (a < nn)) y)
        refine on2_ex (same_lists (by omega) k6 (hB.good.sub List.filter_sublist) k6.at3.sl k6.sl k6.at3.blt k6.blt (Nat.le_trans (List.length_filter_le ..) r100)) fun h49 k7 => ?_
        simp (disch := (first | omega | assumption | rfl | (simp only [hn_new, hn_put, skip_n]; omega))) only [go_sem, g, f34]
        exact ⟨last, _, ⟨k7.drop.at2.drop.at2.at3.drop, hB.good.sub hsub⟩, l0, by omega, by have := hsub.length_le; omega⟩
      by_cases c7 : kd.tmod 9 = 7
      · simp (disch := (first | omega | assumption | rfl | (simp only [hn_new, hn_put, skip_n]; omega))) only [go_sem, g, f0, no9, c7]
        refine on2_ex2 (flush_h (by omega) k3.at2) fun v43 h44 k5 => ?_
        refine on2_ex2 (flush_q (by omega) k5.at4) fun v46 h47 k6 => ?_
        refine on2_ex (same_lists (by omega) k6 hB.good k6.at3.sl k6.sl k6.at3.blt k6.blt r100) fun h49 k7 => ?_
        simp (disch := (first | omega | assumption | rfl | (simp only [hn_new, hn_put, skip_n]; omega))) only [go_sem]
        exact ⟨last, [], ⟨k7.drop.at2.drop.at2.at3.drop, ⟨by simp, by simp, by simp⟩⟩, l0, by omega, by simp; omega⟩
      have hf := act_f hsh
      obtain ⟨x1, x2, x3⟩ := act_x hsh
      have hfl := hf.len
      have tf : takeN 29 (dropN 1 x) = some ((x.drop 1).take 29) := takeN_some (by omega)
      have tx : takeN 4 (dropN 30 x) = some ((x.drop 30).take 4) := takeN_some (by omega)
      by_cases c8 : kd.tmod 9 = 8
      · simp (disch := (first | omega | assumption | rfl | (simp only [hn_new, hn_put, skip_n]; omega))) only [go_sem, g, f0, no9, c8]
        refine on2_exb (copy_h (by omega) k3.at2) fun c h70 k5 => ?_
        have g5 := k5.at3.get
        simp (disch := (first | omega | assumption | rfl | (simp only [hn_new, hn_put, skip_n]; omega))) only [go_sem, g5, tf, tx]
        refine on2_ex (put_h (by omega) k5 hcap.2 ⟨l0, by omega⟩ hfl x1) fun h74 k6 => ?_
        have g6 := k6.at3.get
        have hrr : Rows (if (rows.length : Int) < cap then rows ++ [.int .i64 (last + 1) :: ((x.drop 1).take 29 ++ (x.drop 30).take 4)] else rows) := by
          split
          · exact (hB.good.put hf x1 x2).rows
          · exact hB.good.rows
        simp (disch := (first | omega | assumption | rfl | (simp only [hn_new, hn_put, skip_n]; omega))) only [go_sem, g6, f34]
        refine on2_ex2 (sure_h (by omega) k6 hrr nn) fun v76 h77 k7 => ?_
        have k7 : Hs h0 _ h77 := k7
        refine on2_ex2 (flush_h (by omega) k7.at2) fun v78 h79 k8 => ?_
        exact ⟨last, rows, ⟨(k8.drop.drop.drop).at2.drop, hB.good⟩, l0, by omega, by omega⟩
      · simp (disch := (first | omega | assumption | rfl | (simp only [hn_new, hn_put, skip_n]; omega))) only [go_sem, g, f0, no9, tf, tx]
        refine on2_ex (put_h (by omega) k3.at2 hcap.2 ⟨l0, by omega⟩ hfl x1) fun h74 k6 => ?_
        have g6 := k6.at2.get
        by_cases hful : (rows.length : Int) < cap
        · simp only [if_pos hful] at k6 ⊢
          simp (disch := (first | omega | assumption | rfl | (simp only [hn_new, hn_put, skip_n]; omega))) only [go_sem, g6, tf, tx]
          refine on2_ex (put_q (by omega) k6.at3 hcap.2 ⟨l0, by omega⟩ hfl x1 hf.same x3) fun h91 k7 => ?_
          simp only [if_pos hful] at k7 ⊢
          simp (disch := (first | omega | assumption | rfl | (simp only [hn_new, hn_put, skip_n]; omega))) only [go_sem]
          exact ⟨last + 1, _, ⟨k7.at3.drop.at2, hB.good.put hf x1 x2⟩, by omega, by omega, by simp; omega⟩
        · simp only [if_neg hful] at k6 ⊢
          simp (disch := (first | omega | assumption | rfl | (simp only [hn_new, hn_put, skip_n]; omega))) only [go_sem, g6, tf, tx]
          refine on2_ex (put_q (by omega) k6.at3 hcap.2 ⟨l0, by omega⟩ hfl x1 hf.same x3) fun h91 k7 => ?_
          simp only [if_neg hful] at k7 ⊢
          simp (disch := (first | omega | assumption | rfl | (simp only [hn_new, hn_put, skip_n]; omega))) only [go_sem]
          exact ⟨last, rows, ⟨k7.at3.drop.at2, hB.good⟩, by omega, by omega, by omega⟩
    · -- behind it
      intro c97 h98 ⟨e, last', rows', hB', l0', l1', l2'⟩
      cases e
      obtain ⟨a, bb, hla⟩ := lastV_two hB'.good.rows
      simp (disch := (first | omega | assumption | rfl | (simp only [hn_new, hn_put, skip_n]; omega))) only [go_sem]
      refine on2_ex (last_h (by omega) hB'.has hB'.good.rows) fun h100 kp => ?_
      have k4 := hB'.has.more kp
      rw [hla]
      simp (disch := (first | omega | assumption | rfl | (simp only [hn_new, hn_put, skip_n]; omega))) only [go_sem]
      refine on2_ex (last_q (by omega) k4.at2 hB'.good.rows) fun h106 kp' => ?_
      have k5 := (k4.more kp').more ((Keep.refl _ _).skip 22)
      rw [hla]
      obtain ⟨pp, v, ho, k6⟩ := rd_open k5.at2
      have g6 := k6.get
      have e16 := rlen_h (n := N) (by omega) k5
      rw [skip_get] at g6
      have sv := k6.at2.samev
      cases bb <;> (simp (disch := (first | omega | assumption | rfl | (simp only [hn_new, hn_put, skip_n]; omega))) only [go_sem, e16, g6, k6.at2.sl.len, ho, sv]) <;> exact ⟨xs.length - (i + 1), by omega, i + 1, last', rows', by simp, rfl, by omega, ⟨k5, hB'.good⟩, l0', by omega, by omega⟩
  · simp (disch := (first | omega | assumption | rfl | (simp only [hn_new, hn_put, skip_n]; omega))) only [go_sem, hslh.len]
    refine on2_ex2 (flush_h (by omega) hB.has) fun v43 h44 k5 => ?_
    refine on2_ex2 (flush_q (by omega) k5.at3) fun v46 h47 k6 => ?_
    refine on2_ex (same_lists (by omega) k6 hB.good k6.at3.sl k6.sl k6.at3.blt k6.blt (by omega)) fun h49 k7 => ?_
    simp (disch := (first | omega | assumption | rfl | (simp only [hn_new, hn_put, skip_n]; omega))) only [go_sem, waited_ok (n := N) (by omega)]
end Go.Proofs.Ytpfgbnmeaalpdaa
