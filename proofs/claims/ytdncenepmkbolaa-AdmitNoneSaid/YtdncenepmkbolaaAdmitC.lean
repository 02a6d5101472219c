/-
  Configurations: the program's own Fit, and Check.
-/
import Derived.Test.YtdncenepmkbolaaAdmitA
namespace Go.Proofs.Ytdncenepmkbolaa
open Go Go.Abs Go.Abs.S Go.Abs.W
set_option maxRecDepth 10000
set_option maxHeartbeats 2000000
/-- numbers in a list that is written in its place -/
def FlC (v : AV) (xs : List Int) : Ch := fun h S => LsC 1 v (qrows xs) h S ∨ (v = .sl (S.headD 0) 0 xs.length xs.length ∧ Cell (S.headD 0) (.rows 1 (qrows xs) false none none) h S)
theorem flc_ok (v : AV) (xs : List Int) : Ok (FlC v xs) := by
  refine ⟨fun {h S} k x hx => ?_, fun {h h' S T} k hk hd => ?_⟩
  · rcases k with k | ⟨_, k⟩
    · exact (lsc_ok ..).lt k x hx
    · exact (cell_ok ..).lt k x hx
  · rcases k with k | ⟨e, k⟩
    · exact .inl ((lsc_ok ..).keep k hk hd)
    · exact .inr ⟨e, (cell_ok ..).keep k hk hd⟩
section
variable {h h0 : Go.Abs.H} {n i : Nat} {v : AV} {xs qs : List Int} {L : List Ch} {x : Int}
theorem qrows_len (xs : List Int) : (qrows xs).length = xs.length := by simp [qrows]
theorem qrows_get (hx : xs[i]? = some x) : (qrows xs)[i]? = some [.int .i64 x] := by simp [qrows, hx]
theorem qrows_set (x : Int) : qrows (xs.set i x) = (qrows xs).set i [.int .i64 x] := by simp [qrows, List.map_set]
theorem ls_no {S : List Nat} (q : Lst h 1 v (qrows xs) S) (hi : i < xs.length) (b c : Nat) : v ≠ .sl b 0 xs.length c := by
  intro hv
  rcases q with ⟨hr, hv' | ⟨b, hv', _⟩, _⟩ | ⟨b, p, pre, hv', _⟩
  · rw [hv'] at hv; cases hv
  · have h0 := congrArg List.length hr
    rw [qrows_len] at h0
    rw [h0] at hi
    exact absurd hi (Nat.not_lt_zero _)
  · rw [hv'] at hv; cases hv
theorem fl_sl (k : Hs h0 (FlC v xs :: L) h) : SlR h 1 v (qrows xs) := by
  obtain ⟨S, q, _⟩ := k.read
  rcases q with q | ⟨rfl, q⟩
  · exact q.1.sl
  · refine .inr ⟨_, 0, qrows xs, false, none, none, q.2.1, by omega, .inl ⟨xs.length, by rw [qrows_len]⟩, fun i _ => by rw [Nat.zero_add]⟩
theorem fl_one (k : Hs h0 (FlC v xs :: L) h) : v.one = true := by
  obtain ⟨S, q, _⟩ := k.read
  rcases q with q | ⟨rfl, q⟩
  · exact q.2
  · rfl
theorem fl_blt (k : Hs h0 (FlC v xs :: L) h) : ∀ b, blkOf v = some b → b < h.n := by
  obtain ⟨S, q, _⟩ := k.read
  rcases q with q | ⟨rfl, q⟩
  · exact q.1.blt
  · intro b hb; cases hb; exact q.2.2
theorem fl_same (k : Hs h0 (FlC v xs :: L) h) : sameV v v = true := by
  obtain ⟨S, q, _⟩ := k.read
  rcases q with q | ⟨rfl, q⟩
  · rcases q.1 with ⟨_, rfl | ⟨b, rfl, _⟩, _⟩ | ⟨b, p, pre, rfl, _⟩
    · rfl
    · exact same_sl _ _ _ _
    · exact same_so _ _ _ _
  · exact same_sl _ _ _ _
theorem fl_of (k : Hs h0 (LsC 1 v (qrows xs) :: L) h) : Hs h0 (FlC v xs :: L) h := k.as (flc_ok ..) fun _ h => .inl h
theorem fl_lit {b : Nat} (k : Hs h0 (Cell b (.rows 1 (qrows xs) false none none) :: L) h) : Hs h0 (FlC (.sl b 0 xs.length xs.length) xs :: L) h := k.as (flc_ok ..) fun S q => by
  have e : S = [b] := q.1
  subst e
  exact .inr ⟨rfl, q⟩
theorem fl_set (k : Hs h0 (FlC v xs :: L) h) (hx : xs[i]? = some x) (y : Int) : ∃ b o h', idxS 1 v (i : Int) = some (b, o) ∧ cellG o (h.get b) = some (.int .i64 x) ∧ storeB h b o [.int .i64 y] (h.get b) = some h' ∧ Hs h0 (FlC v (xs.set i y) :: L) h' := by
  obtain ⟨b, o, e1, _, e3, e4⟩ := (fl_sl k).idx (qrows_get hx)
  have hc : cellG o (h.get b) = some (.int .i64 x) := by have := e3 0 (by omega); rwa [Nat.add_zero] at this
  obtain ⟨S, q, _⟩ := k.read
  have hst : ∃ h', storeB h b o [.int .i64 y] (h.get b) = some h' ∧ ∀ S, FlC v xs h S → FlC v (xs.set i y) h' S ∧ Keep h h' S := by
    rcases q with q | ⟨hv, q⟩
    · obtain ⟨b', o', h', f1, f2, f3, f4, _⟩ := q.1.set (qrows_get hx) rfl (c := 0) (cs := [.int .i64 y]) (by simp) (by omega)
      rw [e1] at f1; cases f1
      refine ⟨h', f2, fun S' q' => ?_⟩
      rcases q' with q' | ⟨hv, q'⟩
      · obtain ⟨b', o', h'', g1, g2, g3, g4, _⟩ := q'.1.set (qrows_get hx) rfl (c := 0) (cs := [.int .i64 y]) (by simp) (by omega)
        rw [e1] at g1; cases g1
        rw [f2] at g2; cases g2
        refine ⟨.inl ⟨?_, q'.2⟩, g4⟩
        rw [qrows_set]; exact g3
      · exact absurd hv (ls_no q.1 (List.getElem?_eq_some_iff.1 hx).1 _ _)
    · have hl := (List.getElem?_eq_some_iff.1 hx).1
      have hb : b = S.headD 0 := by rw [hv] at e4; cases e4; rfl
      have ho : o = i := by
        rw [hv] at e1
        simp only [idxS, natOf_ofNat, blt_t hl, Option.some.injEq, Prod.mk.injEq] at e1
        omega
      subst ho
      have hg : h.get b = some (.rows 1 (qrows xs) false none none) := by rw [hb]; exact q.2.1
      refine ⟨h.put b (.rows 1 (qrows (xs.set o y)) false none none), ?_, fun S' q' => ?_⟩
      · have := storeG_row (es := 1) (k := o) (rs := qrows xs) (cs := [.int .i64 y]) (by rw [qrows_len]; exact hl) (fun r hr => by
          unfold qrows at hr; rw [List.mem_map] at hr; obtain ⟨_, _, rfl⟩ := hr; rfl) rfl (by omega)
        rw [Nat.mul_one] at this
        rw [hg, storeB_rows, this, qrows_set]
      · rcases q' with q' | ⟨hv', q'⟩
        · exact absurd hv (ls_no q'.1 (by omega) _ _)
        · have hb' : b = S'.headD 0 := by rw [hv'] at e4; cases e4; rfl
          have hS : S' = [S'.headD 0] := q'.1
          refine ⟨.inr ⟨by rw [List.length_set]; exact hv', ?_⟩, ?_⟩
          · rw [← hb']
            exact ⟨by rw [hb']; exact hS, get_put_same _ _ _, by rw [hb']; exact q'.2.2⟩
          · refine (Keep.refl h _).put (.inr ?_) _
            rw [hS, ← hb']; simp
  obtain ⟨h', f1, f2⟩ := hst
  refine ⟨b, o, h', e1, hc, f1, k.step (flc_ok ..) fun S q => ?_⟩
  exact ⟨S, (f2 S q).1, (f2 S q).2, fun _ hx => .inl hx⟩
/-- one number is brought within -/
theorem fit_cell {b o : Nat} {lo hi : Int} {h' : Go.Abs.H} (hn : 2 ≤ n) (hc : cellG o (h.get b) = some (.int .i64 x)) (hs : storeB h b o [.int .i64 (max lo (min x hi))] (h.get b) = some h') : callS (callX env sums n) (.fn 97 []) [.ptr b o, .int .i64 lo, .int .i64 hi] h = some (.tup [], h') := by
  obtain ⟨n, rfl⟩ : ∃ k, n = k + 1 := ⟨n - 1, by omega⟩
  show callX env sums (n + 1) 97 [.ptr b o, .int .i64 lo, .int .i64 hi] h = _
  refine spec_eq (spec_trN [.ptr b o, .int .i64 lo, .int .i64 hi] rfl ft97 (by kernel_rfl) (tn97 ..) ?_)
  simp (disch := (first | omega | assumption | rfl | (simp only [hn_new, hn_put, skip_n]; omega))) only [go_sem, hc, clamp_ok (n := n) (by omega), hs]
theorem fit_box {b o : Nat} {lo hi : Int} {r : List AV} (hn : 2 ≤ n) (k : Hs h0 (Cell b (.rows 12 [r] false none none) :: L) h) (hr : r.length = 12) (ho : o < 12) (hx : nth r o = some (.int .i64 x)) :
    ∃ h', callS (callX env sums n) (.fn 97 []) [.ptr b o, .int .i64 lo, .int .i64 hi] h = some (.tup [], h') ∧ Hs h0 (Cell b (.rows 12 [r.set o (.int .i64 (max lo (min x hi)))] false none none) :: L) h' := by
  refine ⟨_, fit_cell hn (by rw [k.get, cellG_one _ _ _ _ _ _ ho (by omega)]; exact hx) ?_, k.put _⟩
  have := st_one (b := b) (i := o) (x := .int .i64 (max lo (min x hi))) h (r := r) (by omega)
  rw [hr] at this
  rw [k.get, this]
theorem fit_el {lo hi : Int} (hn : 2 ≤ n) (k : Hs h0 (FlC v xs :: L) h) (hx : xs[i]? = some x) :
    ∃ b o h', idxS 1 v (i : Int) = some (b, o) ∧ callS (callX env sums n) (.fn 97 []) [.ptr b o, .int .i64 lo, .int .i64 hi] h = some (.tup [], h') ∧ Hs h0 (FlC v (xs.set i (max lo (min x hi))) :: L) h' := by
  obtain ⟨b, o, h', e1, e2, e3, e4⟩ := fl_set k hx (max lo (min x hi))
  exact ⟨b, o, h', e1, fit_cell hn e2 e3, e4⟩
theorem eqn63 {w : AV} (hs : SlR h 1 w (qrows xs)) : (w = .nils ∧ binop env .eql 63 w .nils = some (.bool true) ∧ xs = []) ∨ binop env .eql 63 w .nils = some (.bool false) := by
  rcases hs with ⟨hr, rfl | rfl | ⟨b, c, rfl⟩⟩ | ⟨b, i0, all, ro, p, q, k1, k2, k3, k4⟩
  · refine .inl ⟨rfl, by kernel_rfl, ?_⟩
    have := congrArg List.length hr
    rw [qrows_len] at this
    exact List.length_eq_zero_iff.1 this
  · exact .inr (by kernel_rfl)
  · exact .inr (by kernel_rfl)
  · rcases k3 with ⟨cap, rfl⟩ | rfl
    · exact .inr (by kernel_rfl)
    · exact .inr (by kernel_rfl)
theorem iclone_ok (hn : 1 ≤ n) (k : Hs h0 L h) {w : AV} (hs : SlR h 1 w (qrows xs)) (hb : ∀ b, blkOf w = some b → b < h.n) (hl : xs.length ≤ 1000) : ∃ v' h', callX env sums n 99 [w] h = some (v', h') ∧ Hs h0 (LsC 1 v' (qrows xs) :: L) h' := by
  obtain ⟨n, rfl⟩ : ∃ k, n = k + 1 := ⟨n - 1, by omega⟩
  suffices hh : W.Spec env sums (n + 1) 99 [w] h (fun a h' => Hs h0 (LsC 1 a (qrows xs) :: L) h') from by
    obtain ⟨a, h', e, q⟩ := hh; exact ⟨a, h', e, q⟩
  refine spec_trN [.v w] rfl ft99 (by kernel_rfl) (tn99 ..) ?_
  rcases eqn63 hs with ⟨rfl, e, rfl⟩ | e
  · simp (disch := (first | omega | assumption | rfl | (simp only [hn_new, hn_put, skip_n]; omega))) only [go_sem, e]
    exact k.nil 1
  · have k1 := k.new (.rows 1 [] false none none)
    have hs' : SlR (h.new (.rows 1 [] false none none)) 1 w (qrows xs) := hs.keep fun b hb' => get_new_ne _ _ _ (by have := hb b hb'; omega)
    obtain ⟨v', h', q1, q2, _⟩ := k1.clone (es := 1) (v := .sl h.n 0 0 0) (by omega) 8 (.inr ⟨h.n, rfl, by rw [hn_new]; omega⟩) hs' (by rw [qrows_len]; omega) (by rw [qrows_len]; omega)
    simp (disch := (first | omega | assumption | rfl | (simp only [hn_new, hn_put, skip_n]; omega))) only [go_sem, e, q1]
    exact q2.at2.drop
/-- are two lists of numbers the same -/
theorem equal_ok {ys : List Int} {w : AV} (hn : 1200 ≤ n) (hl : xs.length ≤ 1000) (hv : SlR h 1 v (qrows xs)) (hw : SlR h 1 w (qrows ys)) (bv : ∀ b, blkOf v = some b → b < h.n) (bw : ∀ b, blkOf w = some b → b < h.n) : ∃ h', callX env sums n 95 [v, w] h = some (.bool (decide (xs = ys)), h') ∧ Keep h h' [] := by
  obtain ⟨n, rfl⟩ : ∃ k, n = k + 1 := ⟨n - 1, by omega⟩
  suffices hh : W.Spec env sums (n + 1) 95 [v, w] h (fun a h' => a = .bool (decide (xs = ys)) ∧ Keep h h' []) from by
    obtain ⟨a, h', e, rfl, q⟩ := hh; exact ⟨h', e, q⟩
  have lv := hv.len
  have lw := hw.len
  rw [qrows_len] at lv lw
  refine spec_trN [.v v, .v w] rfl ft95 (by kernel_rfl) (tn95 ..) ?_
  by_cases hll : (xs.length : Int) = ys.length
  rotate_left
  · have hne : xs ≠ ys := fun e => hll (by rw [e])
    simp (disch := (first | omega | assumption | rfl | (simp only [hn_new, hn_put, skip_n]; omega))) only [go_sem, lv, lw]
    exact Keep.refl _ _
  simp (disch := (first | omega | assumption | rfl | (simp only [hn_new, hn_put, skip_n]; omega))) only [go_sem, lv, lw]
  refine ⟨fun l m H => ∃ i : Nat, l = [.int .i64 i] ∧ m = xs.length - i ∧ i ≤ xs.length ∧ xs.take i = ys.take i ∧ Keep h H [], ⟨xs.length, by omega, 0, rfl, by omega, by omega, by simp, Keep.refl _ _⟩, ?_⟩
  intro n5 m6 h7 ⟨i, e, hm, hi, heq, kp⟩
  cases e; subst hm
  by_cases hlt : (i : Int) < xs.length
  rotate_left
  · have hie : i = xs.length := by omega
    subst hie
    have heq' : xs = ys := by rw [List.take_length, List.take_of_length_le (by omega)] at heq; exact heq
    simp (disch := (first | omega | assumption | rfl | (simp only [hn_new, hn_put, skip_n]; omega))) only [go_sem]
    exact kp
  · obtain ⟨x, hx⟩ : ∃ x, xs[i]? = some x := ⟨xs[i], List.getElem?_eq_getElem (by omega)⟩
    obtain ⟨y, hy⟩ : ∃ y, ys[i]? = some y := ⟨ys[i]'(by omega), List.getElem?_eq_getElem _⟩
    have kq := kp.skip 9
    obtain ⟨b1, o1, p1, _, p3, p4⟩ := (hv.keep (h' := h7) fun b hb => kp.2 b (bv b hb) (by simp)).idx (qrows_get hx)
    obtain ⟨b2, o2, t1, _, t3, t4⟩ := (hw.keep (h' := h7) fun b hb => kp.2 b (bw b hb) (by simp)).idx (qrows_get hy)
    have c1 : cellG o1 (h7.get b1) = some (.int .i64 x) := by have := p3 0 (by omega); rwa [Nat.add_zero] at this
    have c2 : cellG o2 (h7.get b2) = some (.int .i64 y) := by have := t3 0 (by omega); rwa [Nat.add_zero] at this
    by_cases hxy : x = y
    · subst hxy
      simp (disch := (first | omega | assumption | rfl | (simp only [hn_new, hn_put, skip_n]; omega))) only [go_sem, p1, t1, c1, c2]
      exact ⟨xs.length - (i + 1), by omega, i + 1, by simp, rfl, by omega, by rw [List.take_add_one, List.take_add_one, hx, hy, heq], kq⟩
    · have hne : xs ≠ ys := by rintro rfl; rw [hx] at hy; exact hxy (Option.some.inj hy)
      simp (disch := (first | omega | assumption | rfl | (simp only [hn_new, hn_put, skip_n]; omega))) only [go_sem, p1, t1, c1, c2]
      exact kq
/-- the numbers of a configuration, without its list -/
def C11.row (c : C11) : List AV := [.int .i64 c.nodes, .int .i64 c.chain, .int .i64 c.cli, .int .i64 c.queue, .int .i64 c.win, .int .i64 c.reads, .int .i64 c.link, .int .i64 c.pat, .int .i64 c.tmo, .int .i64 c.bud, .int .i64 c.refl]
theorem row_inj {c d : C11} (h : c.row = d.row) : c = d := by
  cases c; cases d
  simp [C11.row] at h
  simp [h]
theorem nums_ok (hn : 1 ≤ n) (c : C11) (v : AV) (h : Go.Abs.H) : ∃ h', callS (callX env sums n) (.fn 96 []) [.agg (c.cs v)] h = some (.agg c.row, h') ∧ Keep h h' [] := by
  obtain ⟨n, rfl⟩ : ∃ k, n = k + 1 := ⟨n - 1, by omega⟩
  show ∃ h', callX env sums (n + 1) 96 [.agg (c.cs v)] h = _ ∧ _
  suffices hh : W.Spec env sums (n + 1) 96 [.agg (c.cs v)] h (fun a h' => a = .agg c.row ∧ Keep h h' []) from by
    obtain ⟨a, h', e, rfl, q⟩ := hh; exact ⟨h', e, q⟩
  generalize hX : Blk.rows 12 [c.cs v] false none none = X
  generalize hZ : (Blk.rows 11 [[.int .i64 0, .int .i64 0, .int .i64 0, .int .i64 0, .int .i64 0, .int .i64 0, .int .i64 0, .int .i64 0, .int .i64 0, .int .i64 0, .int .i64 0]] false none none) = Z
  have k1 := ((Hs.start h).new X).new Z
  refine spec_trN [.agg (c.cs v)] rfl ft96 (by kernel_rfl) (tn96 ..) ?_
  rw [hZ, hX]
  refine ⟨rfl, ?_⟩
  rw [show ∀ K, (stdN env (callX env sums n) n).new h X K = K h.n (h.new X) from fun _ => rfl]
  rw [show ∀ K, (stdN env (callX env sums n) n).new (h.new X) Z K = K (h.new X).n ((h.new X).new Z) from fun _ => rfl]
  generalize hHH : (h.new X).new Z = HH at k1 ⊢
  have hb2 : (h.new X).n = h.n + 1 := rfl
  rw [hb2] at k1
  have gi : ∀ i, i < 12 → cellG i (HH.get h.n) = nth (c.cs v) i := fun i hi => by rw [k1.at2.get, ← hX, cellG_one _ _ _ _ _ _ hi (by omega)]
  have g0 : cellG 0 (HH.get h.n) = some (.int .i64 c.nodes) := gi 0 (by omega)
  have g1 : cellG 1 (HH.get h.n) = some (.int .i64 c.chain) := gi 1 (by omega)
  have g2 : cellG 2 (HH.get h.n) = some (.int .i64 c.cli) := gi 2 (by omega)
  have g4 : cellG 4 (HH.get h.n) = some (.int .i64 c.queue) := gi 4 (by omega)
  have g5 : cellG 5 (HH.get h.n) = some (.int .i64 c.win) := gi 5 (by omega)
  have g6 : cellG 6 (HH.get h.n) = some (.int .i64 c.reads) := gi 6 (by omega)
  have g7 : cellG 7 (HH.get h.n) = some (.int .i64 c.link) := gi 7 (by omega)
  have g8 : cellG 8 (HH.get h.n) = some (.int .i64 c.pat) := gi 8 (by omega)
  have g9 : cellG 9 (HH.get h.n) = some (.int .i64 c.tmo) := gi 9 (by omega)
  have g10 : cellG 10 (HH.get h.n) = some (.int .i64 c.bud) := gi 10 (by omega)
  have g11 : cellG 11 (HH.get h.n) = some (.int .i64 c.refl) := gi 11 (by omega)
  have st0 : storeB HH (h.n + 1) 0 c.row (HH.get (h.n + 1)) = some (HH.put (h.n + 1) (.rows 11 [c.row] false none none)) := by
    rw [k1.get, ← hZ, storeB_rows, storeG_one _ _ _ _ (by omega), atN_zero, over_full (by rfl)]
  have ld0 : loadG 0 11 ((HH.put (h.n + 1) (.rows 11 [c.row] false none none)).get (h.n + 1)) = some c.row := by
    rw [get_put_same, loadG_zero _ _ _ _ _ (by omega)]; rfl
  have kk : Keep h (HH.put (h.n + 1) (.rows 11 [c.row] false none none)) [] := by
    have := (k1.put (.rows 11 [c.row] false none none)).ext
    exact ⟨this.1, fun b hb _ => this.2 b hb⟩
  unfold C11.row at st0 ld0 kk ⊢
  simp (disch := (first | omega | assumption | rfl | (simp only [hn_new, hn_put, skip_n]; omega))) only [go_sem, g0, g1, g2, g4, g5, g6, g7, g8, g9, g10, g11, st0, ld0]
  exact kk
theorem flat153 : flatIs (env.tt.get 153) (List.replicate 11 .i) = true := by kernel_rfl
theorem fits_row (c : C11) : Fits (List.replicate 11 .i) c.row := ⟨_, _, rfl, ⟨_, rfl⟩, _, _, rfl, ⟨_, rfl⟩, _, _, rfl, ⟨_, rfl⟩, _, _, rfl, ⟨_, rfl⟩, _, _, rfl, ⟨_, rfl⟩, _, _, rfl, ⟨_, rfl⟩, _, _, rfl, ⟨_, rfl⟩, _, _, rfl, ⟨_, rfl⟩, _, _, rfl, ⟨_, rfl⟩, _, _, rfl, ⟨_, rfl⟩, _, _, rfl, ⟨_, rfl⟩, rfl⟩
theorem same_cs (c : C11) (hv : sameV v v = true) : sameL (c.cs v) (c.cs v) = true := by
  unfold C11.cs; simp [sameL, hv, sameV]
theorem same_ok {ys : List Int} {w : AV} (hn : 1201 ≤ n) (c d : C11) (hl : xs.length ≤ 1000) (hv : SlR h 1 v (qrows xs)) (hw : SlR h 1 w (qrows ys)) (bv : ∀ b, blkOf v = some b → b < h.n) (bw : ∀ b, blkOf w = some b → b < h.n) (sw : sameV w w = true) : ∃ h', callX env sums n 92 [.agg (c.cs v), .agg (d.cs w)] h = some (.bool (decide (xs = ys ∧ c = d)), h') ∧ Keep h h' [] := by
  obtain ⟨n, rfl⟩ : ∃ k, n = k + 1 := ⟨n - 1, by omega⟩
  suffices hh : W.Spec env sums (n + 1) 92 [.agg (c.cs v), .agg (d.cs w)] h (fun a h' => a = .bool (decide (xs = ys ∧ c = d)) ∧ Keep h h' []) from by
    obtain ⟨a, h', e, rfl, q⟩ := hh; exact ⟨h', e, q⟩
  generalize hX : Blk.rows 12 [c.cs v] false none none = X
  generalize hZ : Blk.rows 12 [d.cs w] false none none = Z
  have k1 := ((Hs.start h).new X).new Z
  refine spec_trN [.agg (c.cs v), .agg (d.cs w)] rfl ft92 (by kernel_rfl) (tn92 ..) ?_
  rw [hZ, hX]
  refine ⟨rfl, ?_⟩
  rw [show ∀ K, (stdN env (callX env sums n) n).new h X K = K h.n (h.new X) from fun _ => rfl]
  refine ⟨rfl, ?_⟩
  rw [show ∀ K, (stdN env (callX env sums n) n).new (h.new X) Z K = K (h.new X).n ((h.new X).new Z) from fun _ => rfl]
  generalize hHH : (h.new X).new Z = HH at k1 ⊢
  have hb2 : (h.new X).n = h.n + 1 := rfl
  rw [hb2] at k1
  have g0 : cellG 3 (HH.get h.n) = some v := by rw [k1.at2.get, ← hX, cellG_one _ _ _ _ _ _ (by omega) (by omega)]; rfl
  have g2 : cellG 3 (HH.get (h.n + 1)) = some w := by rw [k1.get, ← hZ, cellG_one _ _ _ _ _ _ (by omega) (by omega)]; rfl
  have hv' := hv.keep (h' := HH) fun b hb => k1.ext.2 b (bv b hb)
  have hw' := hw.keep (h' := HH) fun b hb => k1.ext.2 b (bw b hb)
  simp (disch := (first | omega | assumption | rfl | (simp only [hn_new, hn_put, skip_n]; omega))) only [go_sem, g0, g2, hb2]
  refine on2_ex (equal_ok (by omega) hl hv' hw' (fun b hb => Nat.lt_of_lt_of_le (bv b hb) k1.ext.1) (fun b hb => Nat.lt_of_lt_of_le (bw b hb) k1.ext.1)) fun h7 kp => ?_
  have k7 := (k1.more kp).more ((Keep.refl _ _).skip 8)
  have kk : ∀ {H : Go.Abs.H} {L : List Ch}, Hs h L H → Keep h H [] := fun k => ⟨k.ext.1, fun b hb _ => k.ext.2 b hb⟩
  by_cases hxy : xs = ys
  rotate_left
  · have e1 : decide (xs = ys) = false := decide_eq_false hxy
    have e2 : decide (xs = ys ∧ c = d) = false := decide_eq_false (fun e => hxy e.1)
    rw [e1, e2]
    simp (disch := (first | omega | assumption | rfl | (simp only [hn_new, hn_put, skip_n]; omega))) only [go_sem]
    exact kk (k1.more kp)
  · have e1 : decide (xs = ys) = true := decide_eq_true hxy
    rw [e1]
    have l0 : loadG 0 12 ((h7.skip 8).get h.n) = some (c.cs v) := by rw [k7.at2.get, ← hX, loadG_zero _ _ _ _ _ (by omega)]; rfl
    have l2 : loadG 0 12 ((h7.skip 8).get (h.n + 1)) = some (d.cs w) := by rw [k7.get, ← hZ, loadG_zero _ _ _ _ _ (by omega)]; rfl
    rw [skip_get] at l0 l2
    simp (disch := (first | omega | assumption | rfl | (simp only [hn_new, hn_put, skip_n]; omega))) only [go_sem, l0, l2]
    refine on2_ex (nums_ok (by omega) c v (h7.skip 8)) fun h13 kp3 => ?_
    have k13 := k7.more kp3
    have l3 : loadG 0 12 (h13.get (h.n + 1)) = some (d.cs w) := by rw [k13.get, ← hZ, loadG_zero _ _ _ _ _ (by omega)]; rfl
    simp (disch := (first | omega | assumption | rfl | (simp only [hn_new, hn_put, skip_n]; omega))) only [go_sem, l3]
    refine on2_ex (nums_ok (by omega) d w h13) fun h17 kp4 => ?_
    obtain ⟨r, t1, _, t3⟩ := eqT_fit flat153 (fits_row c) (fits_row d)
    have hr : r = decide (xs = ys ∧ c = d) := by
      by_cases hcd : c = d
      · rw [t3.2 (by rw [hcd]), decide_eq_true ⟨hxy, hcd⟩]
      · rw [decide_eq_false (fun e => hcd e.2)]
        cases r with
        | false => rfl
        | true => exact absurd (row_inj (t3.1 rfl)) hcd
    subst hr
    simp (disch := (first | omega | assumption | rfl | (simp only [hn_new, hn_put, skip_n]; omega))) only [go_sem, t1, l2, same_cs d sw]
    exact kk (k13.more kp4)
end
end Go.Proofs.Ytdncenepmkbolaa
