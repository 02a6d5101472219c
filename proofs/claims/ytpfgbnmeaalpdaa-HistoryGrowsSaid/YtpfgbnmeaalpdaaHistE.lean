/-
  'HistoryGrows': the law's run, whatever is handed in.
-/
import Derived.Test.YtpfgbnmeaalpdaaHistC
import Derived.Test.YtpfgbnmeaalpdaaHistD
namespace Go.Proofs.Ytpfgbnmeaalpdaa
open Go Go.Abs Go.Abs.S Go.Abs.W
set_option maxRecDepth 10000
set_option maxHeartbeats 2000000

theorem agg65 : aggT Try.prog 65 = false := by kernel_rfl
theorem pars6 : Try.f6.params.toList = [65] := by kernel_rfl
theorem told_ok {n : Nat} (hn : 1 ≤ n) (h : Go.Abs.H) : callX env sums n 27 [] h = some (.bool true, h) := by
  obtain ⟨n, rfl⟩ : ∃ k, n = k + 1 := ⟨n - 1, by omega⟩
  rfl
theorem flat79 : flatIs (env.tt.get 79) RK = true := by kernel_rfl
theorem flat33h : flatIs (env.tt.get 33) [.i, .s, .s, .i] = true := by kernel_rfl
abbrev z14 : List AV := [AV.int .i64 0, AV.int .i64 0, AV.int .i64 0, AV.str [], AV.str [], AV.int .i64 0, AV.int .i64 0, AV.int .i64 0, AV.int .i64 0, AV.int .i64 0, AV.int .i64 0, AV.str [], AV.int .i64 0, AV.int .i64 0]
abbrev z13 : List AV := [AV.bool false, AV.int .i64 0, AV.int .i64 0, AV.int .i64 0, AV.str [], AV.str [], AV.int .i64 0, AV.int .i64 0, AV.int .i64 0, AV.int .i64 0, AV.str [], AV.int .i64 0, AV.int .i64 0]

/-- what one act comes to -/
def Change (x : List AV) (fin : Bool) (rs : List (List AV)) (E : Int) (ok : Bool) (rs' : List (List AV)) (E' : Int) : Prop :=
  (ok = false ∧ rs' = rs ∧ E' = E) ∨
  (ok = true ∧ E' = E + 1 ∧ fin = false ∧ rs' = rs ++ [newRec (cI x 1) (cI x 2) ((x.drop 3).take 4) E]) ∨
  (ok = true ∧ E' = E + 1 ∧ fin = true ∧ ∃ i y, rs[i]? = some y ∧ rs' = rs.set i (endRec y ((x.drop 7).take 6) E) ∧ cI y 7 < 0 ∧ cI y 0 = cI x 1 ∧ cI y 1 = cI x 2)

section
variable {h0 h : Go.Abs.H} {N r b : Nat} {E : Int} {v w : AV} {rs : List (List AV)} {ls : Nat → Int} {x : List AV}
theorem act_op (fx : Fits AK x) : Fits [.i, .s, .s, .i] ((x.drop 3).take 4) := (fx.drop 3).take 4
theorem act_out (fx : Fits AK x) : Fits OK6 ((x.drop 7).take 6) := (fx.drop 7).take 6
theorem change_call (hi : Inv rs E ls) (fx : Fits AK x) {L : List Ch} {e : Int} {h' : Go.Abs.H} (q : CallP h0 L r E (cI x 1) (cI x 2) v rs ls ((x.drop 3).take 4) e h') :
    ∃ rs' E' ls' v', Hs h0 (HiC r v' E' ls' :: LsC 14 v' rs' :: L) h' ∧ Inv rs' E' ls' ∧ Change x false rs E (decide (e = 0)) rs' E' := by
  rcases q with ⟨he, k⟩ | ⟨he, j, v', hj, hc, _, hl, k⟩
  · exact ⟨rs, E, ls, v, k, hi, .inl ⟨by simp [he], rfl, rfl⟩⟩
  · refine ⟨_, _, _, v', k, ?_, .inr (.inl ⟨by simp [he], rfl, rfl, rfl⟩)⟩
    rw [hc]
    exact hi.call hj (act_op fx) hl
theorem change_end (hi : Inv rs E ls) (fx : Fits AK x) {L : List Ch} {e : Int} {h' : Go.Abs.H} (q : EndP h0 L r E (cI x 1) (cI x 2) v rs ls ((x.drop 7).take 6) e h') :
    ∃ rs' E' ls' v', Hs h0 (HiC r v' E' ls' :: LsC 14 v' rs' :: L) h' ∧ Inv rs' E' ls' ∧ Change x true rs E (decide (e = 0)) rs' E' := by
  rcases q with ⟨he, k⟩ | ⟨he, ho, j, i, y, hj, hc, hl, hy, h7, h1, k⟩
  · exact ⟨rs, E, ls, v, k, hi, .inl ⟨by simp [he], rfl, rfl⟩⟩
  · refine ⟨_, _, _, v, k, hi.fin hj (act_out fx) ho hl hy h7, .inr (.inr ⟨by simp [he], rfl, rfl, i, y, hy, rfl, h7, ?_, h1⟩)⟩
    rcases hi.last j hj with ⟨q1, _⟩ | ⟨i', y', q1, q2, q3, _⟩
    · omega
    · have : i' = i := by omega
      subst this
      rw [hy] at q2; cases q2
      omega
/-- where two lists of records differ -/
structure Dif (x : List AV) (rs rs' : List (List AV)) (E : Int) (i0 : Nat) : Prop where
  le : rs.length ≤ rs'.length
  li : i0 ≤ rs.length
  ne : ∀ k, k < rs.length → k ≠ i0 → rs'[k]? = rs[k]?
  at' : ∀ y, rs[i0]? = some y → rs'[i0]? = some (endRec y ((x.drop 7).take 6) E) ∧ cI y 7 = -1 ∧ cI y 0 = cI x 1 ∧ cI y 1 = cI x 2
theorem dif_of {fin ok : Bool} {rs' : List (List AV)} {E' : Int} (hi : Inv rs E ls) (c : Change x fin rs E ok rs' E') : ∃ i0, Dif x rs rs' E i0 ∧ (rs'.length : Int) - rs.length + (if i0 < rs.length then 1 else 0) = E' - E ∧ ok = decide ((rs'.length : Int) - rs.length + (if i0 < rs.length then 1 else 0) = 1) ∧ 0 ≤ (rs'.length : Int) - rs.length ∧ (rs'.length : Int) - rs.length + (if i0 < rs.length then 1 else 0) ≤ 1 ∧
    ((rs'.length : Int) - rs.length = 1 → fin = false ∧ i0 = rs.length ∧ rs'[rs.length]? = some (newRec (cI x 1) (cI x 2) ((x.drop 3).take 4) E)) ∧ (i0 < rs.length → fin = true) := by
  rcases c with ⟨rfl, rfl, rfl⟩ | ⟨rfl, rfl, rfl, rfl⟩ | ⟨rfl, rfl, rfl, i, y, hy, rfl, h7, h0, h1⟩
  · refine ⟨rs'.length, ⟨by omega, by omega, fun _ _ _ => rfl, fun y hy => ?_⟩, by simp, by simp, by omega, by simp, fun h => by omega, fun h => by omega⟩
    rw [List.getElem?_eq_none (by omega)] at hy; cases hy
  · refine ⟨rs.length, ⟨by simp, by omega, fun k hk _ => List.getElem?_append_left hk, fun y hy => ?_⟩, by simp; omega, by simp; omega, by simp; omega, by simp; omega, fun _ => ⟨rfl, rfl, by simp⟩, fun h => by omega⟩
    rw [List.getElem?_eq_none (by omega)] at hy; cases hy
  · have hil := (List.getElem?_eq_some_iff.1 hy).1
    refine ⟨i, ⟨by simp, by omega, fun k _ hk => List.getElem?_set_ne (fun e => hk e.symm), fun y' hy' => ?_⟩, by simp [hil]; omega, by simp [hil], by simp, by simp [hil], fun h => by simp at h, fun _ => rfl⟩
    rw [hy] at hy'; cases hy'
    have := hi.frm y (List.mem_of_getElem? hy)
    exact ⟨List.getElem?_set_self hil, by omega, h0, h1⟩
end

theorem law6 (h0 : Go.Abs.H) (l : List AV) (ho : HOk h0) (ha : Args h0 Try.prog Try.f6.params.toList l) : ∃ n h', callX env sums n 6 l h0 = some (.bool true, h') := by
  rw [pars6] at ha
  obtain ⟨v1, r1, rfl, a1, rfl⟩ := ha
  have hs1 := arg_one shape65 agg65 a1
  obtain ⟨xs, hsl, hrow, hlen⟩ := sl_of_sh (by omega) hs1
  have hfit : ∀ x ∈ xs, Fits AK x := fun x hx => act_fits (hrow x hx)
  have hblk := sl_blk ho hs1
  obtain ⟨N, hN⟩ : ∃ N, N = xs.length + 3000 := ⟨_, rfl⟩
  suffices hh : W.Spec env sums (N + 1) 6 [v1] h0 (fun r _ => r = .bool true) by
    obtain ⟨v, h', e, rfl⟩ := hh
    exact ⟨N + 1, h', e⟩
  refine spec_trN [.v v1] rfl ft6 (by kernel_rfl) (tn6 ..) ?_
  obtain ⟨b, e1, hb⟩ := great26 (n := N) (by omega) hsl hfit hlen 50
  cases b with
  | true =>
    simp (disch := (first | omega | assumption | rfl | (simp only [hn_new, hn_put, skip_n]; omega))) only [go_sem, e1, told_ok (n := N) (by omega)]
  | false =>
  have h50 := hb rfl
  simp (disch := (first | omega | assumption | rfl | (simp only [hn_new, hn_put, skip_n]; omega))) only [go_sem, e1, hnew (n := N) (by omega)]
  have k0 := ((Hs.start h0).new (.rows 9 [hiRow .nils 0 fun _ => 0] false none none)).at2' fun k => k.nil 14
  generalize h0.new (.rows 9 [hiRow .nils 0 fun _ => 0] false none none) = h1 at k0 ⊢
  generalize hr : h0.n = r at k0 ⊢
  refine ⟨fun l m h => ∃ (i : Nat) (rs : List (List AV)) (E : Int) (ls : Nat → Int) (v : AV), l = [.int .i64 i] ∧ m = xs.length - i ∧ i ≤ xs.length ∧ Hs h0 [HiC r v E ls, LsC 14 v rs] h ∧ Inv rs E ls ∧ E ≤ i ∧ rs.length ≤ i, ⟨xs.length, by omega, 0, [], 0, _, _, rfl, by omega, by omega, k0, Inv.start, by omega, by simp⟩, ?_⟩
  intro n10 m11 h12 ⟨i, rs, E, ls, v, e, hm, hi, hk, hI, l1, l2⟩
  cases e; subst hm
  have hx := hk.ext
  have hslh : SlR h12 13 v1 xs := hsl.keep fun b hb => hx.2 b (hblk b hb)
  have hE0 := hI.E0
  by_cases hlt : (i : Int) < xs.length
  rotate_left
  · simp (disch := (first | omega | assumption | rfl | (simp only [hn_new, hn_put, skip_n]; omega))) only [go_sem, hslh.len, told_ok (n := N) (by omega)]
  obtain ⟨x, hxi⟩ : ∃ x, xs[i]? = some x := ⟨xs[i], List.getElem?_eq_getElem (by omega)⟩
  have fx := hfit x (List.mem_of_getElem? hxi)
  have xl : x.length = 13 := fx.length
  obtain ⟨b, o, p1, p2, _, _⟩ := hslh.idx hxi
  simp (disch := (first | omega | assumption | rfl | (simp only [hn_new, hn_put, skip_n]; omega))) only [go_sem, hslh.len, p1, p2, xl, over_full]
  have k1 := ((hk.new (.rows 13 [z13] false none none)).put (.rows 13 [x] false none none))
  generalize hg : (h12.new (Blk.rows 13 [z13] false none none)).put h12.n (Blk.rows 13 [x] false none none) = h19 at k1 ⊢
  generalize hbn : h12.n = b17 at k1 ⊢
  refine on2_ex2 (hrecords (by omega) k1.to3 (by omega)) fun v20 h21 k2 => ?_
  refine on2_eq (hevents (by omega) k2.at2) ?_
  have gx := k2.at4.get
  have k3 := k2.to3
  obtain ⟨fin, hfin⟩ := bool_of fx 0 rfl
  have x1 := fx.int 1 rfl
  have x2 := fx.int 2 rfl
  have top : takeN 4 (dropN 3 x) = some ((x.drop 3).take 4) := takeN_some (by omega)
  have tout : takeN 6 (dropN 7 x) = some ((x.drop 7).take 6) := takeN_some (by omega)
  simp (disch := (first | omega | assumption | rfl | (simp only [hn_new, hn_put, skip_n]; omega))) only [go_sem]
  refine ⟨fun l h' => ∃ (ok : Bool) (rs' : List (List AV)) (E' : Int) (ls' : Nat → Int) (v' : AV), l = [.bool ok] ∧ Hs h0 [HiC r v' E' ls', LsC 14 v' rs', LsC 14 v20 rs, Cell b17 (.rows 13 [x] false none none)] h' ∧ Inv rs' E' ls' ∧ Change x fin rs E ok rs' E', ?_, ?_⟩
  · cases fin with
    | true =>
      simp (disch := (first | omega | assumption | rfl | (simp only [hn_new, hn_put, skip_n]; omega))) only [go_sem, gx, hfin, x1, x2, tout]
      refine on2_exb (end_ok (by omega) k3 hI.row hI.lasts ⟨hE0, by omega⟩ (by omega) (act_out fx)) fun e h31 q => ?_
      obtain ⟨rs', E', ls', v', q1, q2, q3⟩ := change_end hI fx q
      simp (disch := (first | omega | assumption | rfl | (simp only [hn_new, hn_put, skip_n]; omega))) only [go_sem]
      exact ⟨_, rs', E', ls', v', rfl, q1, q2, q3⟩
    | false =>
      simp (disch := (first | omega | assumption | rfl | (simp only [hn_new, hn_put, skip_n]; omega))) only [go_sem, gx, hfin, x1, x2, top]
      refine on2_exb (call_ok (by omega) k3 hI.row hI.lasts ⟨hE0, by omega⟩ (by omega) (act_op fx)) fun e h31 q => ?_
      obtain ⟨rs', E', ls', v', q1, q2, q3⟩ := change_call hI fx q
      simp (disch := (first | omega | assumption | rfl | (simp only [hn_new, hn_put, skip_n]; omega))) only [go_sem]
      exact ⟨_, rs', E', ls', v', rfl, q1, q2, q3⟩
  · intro c40 h41 ⟨ok, rs', E', ls', v', e, k4, hI', hch⟩
    cases e
    obtain ⟨i0, hd, d1, d2, d3, d4, d5, d6⟩ := dif_of hI hch
    have hE0' := hI'.E0
    refine on2_ex2 (hrecords (by omega) k4 (by omega)) fun v42 h43 k5 => ?_
    simp (disch := (first | omega | assumption | rfl | (simp only [hn_new, hn_put, skip_n]; omega))) only [go_sem, k5.sl.len, k5.at4.sl.len]
    refine ⟨fun l h => l = [.int .i64 (if i0 < rs.length then 1 else 0)] ∧ Hs h0 [LsC 14 v42 rs', HiC r v' E' ls', LsC 14 v' rs', LsC 14 v20 rs, Cell b17 (.rows 13 [x] false none none)] h, ?_, ?_⟩
    · refine ⟨fun l m h => ∃ k : Nat, l = [.int .i64 (if i0 < k then 1 else 0), .int .i64 k] ∧ m = rs.length - k ∧ k ≤ rs.length ∧ Hs h0 [LsC 14 v42 rs', HiC r v' E' ls', LsC 14 v' rs', LsC 14 v20 rs, Cell b17 (.rows 13 [x] false none none)] h, ⟨rs.length, by omega, 0, rfl, by omega, by omega, k5⟩, ?_⟩
      intro n49 n50 m51 h52 ⟨k, e, hm, hkl, k6⟩
      cases e; subst hm
      have s42 := k6.sl
      have s20 := k6.at4.sl
      have hle := hd.le
      have hli := hd.li
      by_cases hkt : (k : Int) < rs.length
      rotate_left
      · simp (disch := (first | omega | assumption | rfl | (simp only [hn_new, hn_put, skip_n]; omega))) only [go_sem, s20.len]
        have : k = rs.length := by omega
        subst this
        exact ⟨rfl, k6⟩
      have hkt' : (k : Int) < rs'.length := by omega
      obtain ⟨y, hy⟩ : ∃ y, rs[k]? = some y := ⟨rs[k], List.getElem?_eq_getElem (by omega)⟩
      obtain ⟨y', hy'⟩ : ∃ y', rs'[k]? = some y' := ⟨rs'[k], List.getElem?_eq_getElem (by omega)⟩
      have fy := hI.row y (List.mem_of_getElem? hy)
      have fy' := hI'.row y' (List.mem_of_getElem? hy')
      obtain ⟨b1, o1, u1, u2, u3, u4⟩ := s20.idx hy
      obtain ⟨b2, o2, w1, w2, w3, w4⟩ := s42.idx hy'
      obtain ⟨c, q1, q2, q3⟩ := eqT_fit flat79 fy fy'
      by_cases hki : k = i0
      · -- the one that has ended
        subst hki
        obtain ⟨t1, t2, t3, t4⟩ := hd.at' y hy
        rw [hy'] at t1; cases t1
        have hyl : y.length = 14 := fy.length
        have hcf : c = false := by
          cases c with
          | false => rfl
          | true =>
            have := q3.1 rfl
            obtain ⟨_, r7, _⟩ := end_cells (E := E) fy (act_out fx)
            rw [← this] at r7; omega
        subst hcf
        have lb1 := k6.at4.blt b1 u4
        have lb2 := k6.blt b2 w4
        have lbx := k6.at5.lt.2
        have gx6 := k6.at5.get
        have gn : ((h52.skip 9).new (.rows 14 [z14] false none none)).get (h52.n + 9) = some (.rows 14 [z14] false none none) := get_new_same _ _
        have a7 : atN (over [.int .i64 E]) 7 y = some (y.take 7 ++ [.int .i64 E] ++ y.drop 8) := atN_put (by simp [hyl])
        have hol : ((x.drop 7).take 6).length = 6 := (act_out fx).length
        have a8 : atN (over ((x.drop 7).take 6)) 8 (y.take 7 ++ [.int .i64 E] ++ y.drop 8) = some (endRec y ((x.drop 7).take 6) E) := by
          rw [atN_put (by simp [hyl]; omega), hol]; congr 1; exact end_eq hyl hol
        have c7 : cellG (o1 + 7) (h52.get b1) = some (.int .i64 (-1)) := by have := u3 7 (by omega); rw [cellQ_some _ _ _ (by omega), fy.int 7 rfl, t2] at this; exact this
        obtain ⟨r0, _⟩ := end_cells (E := E) fy (act_out fx)
        have c0 : cellG o2 (h52.get b2) = some (.int .i64 (cI x 1)) := by have := w3 0 (by omega); rw [cellQ_some _ _ _ (by omega), fy'.int 0 rfl, r0 0 (by omega), t3] at this; exact this
        have c1 : cellG (o2 + 1) (h52.get b2) = some (.int .i64 (cI x 2)) := by have := w3 1 (by omega); rw [cellQ_some _ _ _ (by omega), fy'.int 1 rfl, r0 1 (by omega), t4] at this; exact this
        have sf := (eqT_self flat79 fy').1
        have hy'l : (endRec y ((x.drop 7).take 6) E).length = 14 := fy'.length
        have k00 : ¬ k < k := by omega
        simp (disch := (first | omega | assumption | rfl | (simp only [hn_new, hn_put, skip_n]; omega))) only [go_sem, s20.len, s42.len, u1, u2, w1, w2, q2, hyl, over_full, gn, gx6, tout, hol, a7, a8, (act_out fx).same, c7, sf, c0, c1, x1, x2, if_neg k00]
        have kf : Keep h52 (((((((h52.skip 9).new (.rows 14 [z14] false none none)).put (h52.n + 9) (.rows 14 [y] false none none)).skip 7).put (h52.n + 9) (.rows 14 [y.take 7 ++ [.int .i64 E] ++ y.drop 8] false none none)).put (h52.n + 9) (.rows 14 [endRec y ((x.drop 7).take 6) E] false none none)).skip 34) [] := by (repeat' first | exact (Keep.refl _ _) | refine Keep.skip ?_ _ | refine Keep.new ?_ _ | refine Keep.put ?_ (.inl (by first | omega | (simp only [hn_new, hn_put, skip_n]; omega))) _)
        refine ⟨rs.length - (k + 1), by omega, k + 1, ?_, rfl, by omega, k6.more kf⟩
        simp
      · have hyy : y' = y := by
          have := hd.ne k (by omega) hki
          rw [hy, hy'] at this; exact Option.some.inj this
        have hct := q3.2 hyy.symm
        subst hct
        simp (disch := (first | omega | assumption | rfl | (simp only [hn_new, hn_put, skip_n]; omega))) only [go_sem, s20.len, s42.len, u1, u2, w1, w2, q2]
        refine ⟨rs.length - (k + 1), by omega, k + 1, ?_, rfl, by omega, k6.more ((Keep.refl _ _).skip 9)⟩
        have : (i0 < k + 1) = (i0 < k) := by apply propext; omega
        simp [this]
    · intro n96 h97 ⟨e, k6⟩
      cases e
      have k7 := k6.more ((Keep.refl _ _).skip 64)
      have gx7 := k6.at5.get
      have hev := hevents (n := N) (by omega) k7.at2
      obtain ⟨ot, hot⟩ : ∃ ot : Int, (if i0 < rs.length then 1 else 0) = ot := ⟨_, rfl⟩
      have ho2 : (ot = 0 ∧ ¬ i0 < rs.length) ∨ (ot = 1 ∧ i0 < rs.length) := by
        by_cases h : i0 < rs.length
        · right; rw [if_pos h] at hot; exact ⟨hot.symm, h⟩
        · left; rw [if_neg h] at hot; exact ⟨hot.symm, h⟩
      rw [hot] at d1 d2 d4 ⊢
      have hfinal : nxtN (fun l m h => ∃ (i : Nat) (rs : List (List AV)) (E : Int) (ls : Nat → Int) (v : AV), l = [.int .i64 i] ∧ m = xs.length - i ∧ i ≤ xs.length ∧ Hs h0 [HiC r v E ls, LsC 14 v rs] h ∧ Inv rs E ls ∧ E ≤ i ∧ rs.length ≤ i) (xs.length - i) [.int .i64 ((i : Int) + 1)] (h97.skip 64) :=
        ⟨xs.length - (i + 1), by omega, i + 1, rs', E', ls', v', by simp, rfl, by omega, k7.drop.at3.drop.at3.drop, hI', by omega, by omega⟩
      by_cases hm : (rs'.length : Int) - rs.length = 1
      · obtain ⟨f1, f2, f3⟩ := d5 hm
        have hot0 : ot = 0 := by omega
        subst hot0 f1
        have hok : c40 = true := by rw [d2]; simp; omega
        subst hok
        obtain ⟨b3, o3, v1', v2', v3', v5', v4'⟩ := k7.sl.part f3
        have e1' : (E' - E = 1) = True := by simp; omega
        obtain ⟨n0, n1, n6, n7, n8, nf, nop⟩ := new_cells (s := cI x 2) (E := E) (cI x 1) (act_op fx)
        have c6 : cellG (o3 + 6) ((h97.skip 64).get b3) = some (.int .i64 E) := by have := v3' 6 (by omega); rw [cellQ_some _ _ _ (by omega), nf.int 6 rfl, n6] at this; exact this
        have nl : (newRec (cI x 1) (cI x 2) ((x.drop 3).take 4) E).length = 14 := nf.length
        have l4 : loadG (o3 + 2) 4 ((h97.skip 64).get b3) = some ((x.drop 3).take 4) := by rw [v5' 2 4 (by omega) (by omega), takeN_some (by omega), nop]
        have sf := (eqT_self flat33h (act_op fx)).1
        rw [skip_get] at c6 l4
        have hEE : E' - E = 1 := by omega
        simp (disch := (first | omega | assumption | rfl | (simp only [hn_new, hn_put, skip_n]; omega))) only [go_sem, hm, hev, hEE, gx7, hfin, k7.at4.sl.len, v1', c6, l4, top, sf]
        exact hfinal
      · have hm0 : (rs'.length : Int) - rs.length = 0 := by omega
        have hEE : E' - E = ot := by omega
        rcases ho2 with ⟨rfl, hlt'⟩ | ⟨rfl, hlt'⟩
        · have hok : c40 = false := by rw [d2]; simp; omega
          subst hok
          simp (disch := (first | omega | assumption | rfl | (simp only [hn_new, hn_put, skip_n]; omega))) only [go_sem, hm0, hev, hEE]
          exact hfinal
        · have hok : c40 = true := by rw [d2]; simp; omega
          have hft := d6 hlt'
          subst hok hft
          simp (disch := (first | omega | assumption | rfl | (simp only [hn_new, hn_put, skip_n]; omega))) only [go_sem, hm0, hev, hEE, gx7, hfin]
          exact hfinal
end Go.Proofs.Ytpfgbnmeaalpdaa
