/-
  'HistoryOrder': the law's run, whatever is handed in.
-/
import Derived.Test.YtpfgbnmeaalpdaaHistC
import Derived.Test.YtpfgbnmeaalpdaaHistD
namespace Go.Proofs.Ytpfgbnmeaalpdaa
open Go Go.Abs Go.Abs.S Go.Abs.W
set_option maxRecDepth 10000
set_option maxHeartbeats 2000000

theorem agg65 : aggT Try.prog 65 = false := by kernel_rfl
theorem pars5 : Try.f5.params.toList = [65] := by kernel_rfl
theorem told_ok {n : Nat} (hn : 1 ≤ n) (h : Go.Abs.H) : callX env sums n 27 [] h = some (.bool true, h) := by
  obtain ⟨n, rfl⟩ : ∃ k, n = k + 1 := ⟨n - 1, by omega⟩
  rfl
abbrev z14 : List AV := [AV.int .i64 0, AV.int .i64 0, AV.int .i64 0, AV.str [], AV.str [], AV.int .i64 0, AV.int .i64 0, AV.int .i64 0, AV.int .i64 0, AV.int .i64 0, AV.int .i64 0, AV.str [], AV.int .i64 0, AV.int .i64 0]

/-- how often each event was seen -/
def seenR (n : Nat) (f : Nat → Int) : List (List AV) := (List.range n).map fun e => [AV.int .i64 (f e)]
theorem seen_len (n : Nat) (f : Nat → Int) : (seenR n f).length = n := by simp [seenR]
theorem seen_get {n k : Nat} (f : Nat → Int) (h : k < n) : (seenR n f)[k]? = some [.int .i64 (f k)] := by simp [seenR, h]
theorem seen_wide (n : Nat) (f : Nat → Int) : ∀ r ∈ seenR n f, r.length = 1 := fun r hr => by
  unfold seenR at hr; rw [List.mem_map] at hr; obtain ⟨a, _, rfl⟩ := hr; rfl
theorem seen_set {n k : Nat} (f : Nat → Int) (y : Int) : (seenR n f).set k [.int .i64 y] = seenR n (fun e => if e = k then y else f e) := by
  refine List.ext_getElem? fun i => ?_
  by_cases hi : i < n
  · rw [seen_get _ hi]
    by_cases hk : i = k
    · subst hk; rw [List.getElem?_set_self (by rw [seen_len]; exact hi), if_pos rfl]
    · rw [List.getElem?_set_ne (fun e => hk e.symm), seen_get _ hi, if_neg hk]
  · rw [List.getElem?_eq_none (by rw [List.length_set, seen_len]; omega), List.getElem?_eq_none (by rw [seen_len]; omega)]
theorem seen_rep (n : Nat) : List.replicate n [AV.int .i64 0] = seenR n fun _ => 0 := by
  refine List.ext_getElem? fun i => ?_
  by_cases hi : i < n
  · rw [seen_get _ hi, List.getElem?_replicate, if_pos hi]
  · rw [List.getElem?_eq_none (by simp; omega), List.getElem?_eq_none (by rw [seen_len]; omega)]
theorem seen_ld {n k : Nat} (f : Nat → Int) (h : k < n) : cellG (k * 1) (some (.rows 1 (seenR n f) false none none)) = some (.int .i64 (f k)) := by
  rw [cellG_rows, Nat.mul_one, Nat.mod_one, Nat.div_one, nth_eq, seen_get f h]; rfl
theorem seen_st {n k : Nat} (f : Nat → Int) (y : Int) (h : k < n) : storeG (k * 1) [.int .i64 y] 1 (seenR n f) = some (seenR n fun e => if e = k then y else f e) := by
  rw [storeG_row (by rw [seen_len]; exact h) (seen_wide n f) rfl (by omega), seen_set]
theorem len_sl (b o l c : Nat) : lenS (.sl b o l c) = some l := rfl

/-- how often, by the first records -/
noncomputable def seenF (rs : List (List AV)) (i : Nat) : Nat → Int := fun e => (cnt (e : Int) (rs.take i) : Nat)
theorem cnt_le (e : Int) (rs : List (List AV)) : cnt e rs ≤ 2 * rs.length := by
  have h1 := List.countP_le_length (p := fun x => decide (cI x 6 = e)) (l := rs)
  have h2 := List.countP_le_length (p := fun x => decide (cI x 7 = e)) (l := rs)
  unfold cnt; omega
theorem seenF_le (rs : List (List AV)) (i e : Nat) : 0 ≤ seenF rs i e ∧ seenF rs i e ≤ 2 * rs.length := by
  have := cnt_le (e : Int) (rs.take i)
  rw [List.length_take] at this
  unfold seenF; omega
theorem seenF_succ {rs : List (List AV)} {i : Nat} {x : List AV} (hx : rs[i]? = some x) (e : Nat) : seenF rs (i + 1) e = seenF rs i e + (if cI x 6 = e then 1 else 0) + (if cI x 7 = e then 1 else 0) := by
  unfold seenF
  rw [List.take_add_one, hx]
  show ((cnt (e : Int) (rs.take i ++ [x]) : Nat) : Int) = _
  rw [cnt_append]
  split <;> split <;> simp <;> omega

theorem law5 (h0 : Go.Abs.H) (l : List AV) (ho : HOk h0) (ha : Args h0 Try.prog Try.f5.params.toList l) : ∃ n h', callX env sums n 5 l h0 = some (.bool true, h') := by
  rw [pars5] at ha
  obtain ⟨v1, r1, rfl, a1, rfl⟩ := ha
  have hs1 := arg_one shape65 agg65 a1
  obtain ⟨xs, hsl, hrow, hlen⟩ := sl_of_sh (by omega) hs1
  have hfit : ∀ x ∈ xs, Fits AK x := fun x hx => act_fits (hrow x hx)
  have hblk := sl_blk ho hs1
  obtain ⟨N, hN⟩ : ∃ N, N = xs.length + 3000 := ⟨_, rfl⟩
  suffices hh : W.Spec env sums (N + 1) 5 [v1] h0 (fun r _ => r = .bool true) by
    obtain ⟨v, h', e, rfl⟩ := hh
    exact ⟨N + 1, h', e⟩
  refine spec_trN [.v v1] rfl ft5 (by kernel_rfl) (tn5 ..) ?_
  obtain ⟨b, e1, hb⟩ := great26 (n := N) (by omega) hsl hfit hlen 80
  cases b with
  | true =>
    simp (disch := (first | omega | assumption | rfl | (simp only [hn_new, hn_put, skip_n]; omega))) only [go_sem, e1, told_ok (n := N) (by omega)]
  | false =>
  have h80 := hb rfl
  simp (disch := (first | omega | assumption | rfl | (simp only [hn_new, hn_put, skip_n]; omega))) only [go_sem, e1, hnew (n := N) (by omega)]
  have k0 := ((Hs.start h0).new (.rows 9 [hiRow .nils 0 fun _ => 0] false none none)).at2' fun k => k.nil 14
  generalize h0.new (.rows 9 [hiRow .nils 0 fun _ => 0] false none none) = h1 at k0 ⊢
  generalize hr : h0.n = r at k0 ⊢
  refine ⟨fun l m h => ∃ (i : Nat) (rs : List (List AV)) (E : Int) (ls : Nat → Int) (v : AV), l = [.int .i64 i] ∧ m = xs.length - i ∧ i ≤ xs.length ∧ Hs h0 [HiC r v E ls, LsC 14 v rs] h ∧ Inv rs E ls ∧ E ≤ i ∧ rs.length ≤ i, ⟨xs.length, by omega, 0, [], 0, _, _, rfl, by omega, by omega, k0, Inv.start, by omega, by simp⟩, ?_⟩
  intro n10 m11 h12 ⟨i, rs, E, ls, v, e, hm, hi, hk, hI, l1, l2⟩
  cases e; subst hm
  have hx := hk.ext
  have hslh : SlR h12 13 v1 xs := hsl.keep fun b hb => hx.2 b (hblk b hb)
  have hE0 := hI.E0
  by_cases hlt : (i : Int) < xs.length
  · obtain ⟨x, hxi⟩ : ∃ x, xs[i]? = some x := ⟨xs[i], List.getElem?_eq_getElem (by omega)⟩
    have fx := hfit x (List.mem_of_getElem? hxi)
    have xl : x.length = 13 := fx.length
    obtain ⟨b, o, p1, p2, p3, p5, _⟩ := hslh.part hxi
    obtain ⟨fin, hfin⟩ := bool_of fx 0 rfl
    have g0 : cellG o (h12.get b) = some (.bool fin) := by have := p3 0 (by omega); rw [cellQ_some _ _ _ (by omega), hfin] at this; exact this
    have g1 : cellG (o + 1) (h12.get b) = some (.int .i64 (cI x 1)) := by have := p3 1 (by omega); rw [cellQ_some _ _ _ (by omega), fx.int 1 rfl] at this; exact this
    have g2 : cellG (o + 2) (h12.get b) = some (.int .i64 (cI x 2)) := by have := p3 2 (by omega); rw [cellQ_some _ _ _ (by omega), fx.int 2 rfl] at this; exact this
    have g3 : loadG (o + 3) 4 (h12.get b) = some ((x.drop 3).take 4) := by rw [p5 3 4 (by omega) (by omega), takeN_some (by omega)]
    have g7 : loadG (o + 7) 6 (h12.get b) = some ((x.drop 7).take 6) := by rw [p5 7 6 (by omega) (by omega), takeN_some (by omega)]
    have k1 := hk.more ((Keep.refl _ _).skip 17)
    cases fin with
    | true =>
      simp (disch := (first | omega | assumption | rfl | (simp only [hn_new, hn_put, skip_n]; omega))) only [go_sem, hslh.len, p1, g0, g1, g2, g7]
      refine on2_exb (end_ok (by omega) k1 hI.row hI.lasts ⟨hE0, by omega⟩ (by omega) ((fx.drop 7).take 6)) fun e h31 q => ?_
      simp (disch := (first | omega | assumption | rfl | (simp only [hn_new, hn_put, skip_n]; omega))) only [go_sem]
      rcases q with ⟨he, k⟩ | ⟨he, hoo, j, i', y, hj, hc, hl, hy, h7, _, k⟩
      · exact ⟨xs.length - (i + 1), by omega, i + 1, rs, E, ls, v, by simp, rfl, by omega, k, hI, by omega, by omega⟩
      · exact ⟨xs.length - (i + 1), by omega, i + 1, _, E + 1, ls, v, by simp, rfl, by omega, k, hI.fin hj ((fx.drop 7).take 6) hoo hl hy h7, by omega, by simp; omega⟩
    | false =>
      simp (disch := (first | omega | assumption | rfl | (simp only [hn_new, hn_put, skip_n]; omega))) only [go_sem, hslh.len, p1, g0, g1, g2, g3]
      refine on2_exb (call_ok (by omega) k1 hI.row hI.lasts ⟨hE0, by omega⟩ (by omega) ((fx.drop 3).take 4)) fun e h31 q => ?_
      simp (disch := (first | omega | assumption | rfl | (simp only [hn_new, hn_put, skip_n]; omega))) only [go_sem]
      rcases q with ⟨he, k⟩ | ⟨he, j, v', hj, hc, _, hl, k⟩
      · exact ⟨xs.length - (i + 1), by omega, i + 1, rs, E, ls, v, by simp, rfl, by omega, k, hI, by omega, by omega⟩
      · rw [hc] at k
        exact ⟨xs.length - (i + 1), by omega, i + 1, _, E + 1, _, v', by simp, rfl, by omega, k, hI.call hj ((fx.drop 3).take 4) hl, by omega, by simp; omega⟩
  -- the records
  simp (disch := (first | omega | assumption | rfl | (simp only [hn_new, hn_put, skip_n]; omega))) only [go_sem, hslh.len]
  refine on2_ex2 (hrecords (by omega) hk (by omega)) fun v45 h46 k1 => ?_
  refine on2_eq (hevents (by omega) k1.at2) ?_
  obtain ⟨n, rfl⟩ : ∃ n : Nat, E = n := ⟨E.toNat, by omega⟩
  have hmk : mkS 8 (n : Int) (n : Int) = some (n, n) := by simp only [mkS, natOf_ofNat, ble_t (Nat.le_refl n), ble_t (show n * 8 ≤ 1099511627776 by omega), ble_t (show n ≤ 1099511627776 by omega)]
  simp (disch := (first | omega | assumption | rfl | (simp only [hn_new, hn_put, skip_n]; omega))) only [go_sem, hmk]
  have k2 := (k1.at3.drop.at2.drop.new (.rows 1 (List.replicate n [.int .i64 0]) false none none)).at2
  generalize hb52 : h46.n = b52 at k2 ⊢
  have rl : rs.length ≤ 80 := by omega
  refine ⟨fun l m h => ∃ i : Nat, l = [.int .i64 i] ∧ m = rs.length - i ∧ i ≤ rs.length ∧ Hs h0 [LsC 14 v45 rs, Cell b52 (.rows 1 (seenR n (seenF rs i)) false none none)] h, ⟨rs.length, by omega, 0, rfl, by omega, by omega, ?_⟩, ?_⟩
  · have : seenF rs 0 = fun _ => 0 := by funext e; simp [seenF, cnt]
    rw [this, ← seen_rep]; exact k2
  intro n56 m57 h58 ⟨i, e, hm, hi, k3⟩
  cases e; subst hm
  have s45 := k3.sl
  by_cases hlt2 : (i : Int) < rs.length
  rotate_left
  · -- all were seen once
    have : i = rs.length := by omega
    subst this
    simp (disch := (first | omega | assumption | rfl | (simp only [hn_new, hn_put, skip_n]; omega))) only [go_sem, s45.len]
    refine ⟨fun l m h => ∃ e : Nat, l = [.int .i64 e] ∧ m = n - e ∧ e ≤ n ∧ h = h58, ⟨n, by omega, 0, rfl, by omega, by omega, rfl⟩, ?_⟩
    intro n133 m134 h135 ⟨e, he, hm, hen, hh⟩
    cases he; subst hm hh
    by_cases hlt3 : (e : Int) < n
    · have hone : seenF rs rs.length e = 1 := by
        unfold seenF; rw [List.take_length, hI.one e (by omega) hlt3]; rfl
      have gs := k3.at2.get
      have hld := seen_ld (n := n) (seenF rs rs.length) (k := e) (by omega)
      rw [hone] at hld
      simp (disch := (first | omega | assumption | rfl | (simp only [hn_new, hn_put, skip_n]; omega))) only [go_sem, len_sl, idx_sl (show (0 : Int) ≤ e by omega) hlt3, gs, Int.toNat_natCast, hld]
      exact ⟨n - (e + 1), by omega, e + 1, by simp, rfl, by omega, rfl⟩
    · simp (disch := (first | omega | assumption | rfl | (simp only [hn_new, hn_put, skip_n]; omega))) only [go_sem, len_sl, told_ok (n := N) (by omega)]
  obtain ⟨x, hxi⟩ : ∃ x, rs[i]? = some x := ⟨rs[i], List.getElem?_eq_getElem (by omega)⟩
  have fx := hI.row x (List.mem_of_getElem? hxi)
  have xl : x.length = 14 := fx.length
  have frm := hI.frm x (List.mem_of_getElem? hxi)
  obtain ⟨b, o, p1, p2, p3, _⟩ := s45.idx hxi
  have x0 := fx.int 0 rfl
  have x1 := fx.int 1 rfl
  have x6 := fx.int 6 rfl
  have x7 := fx.int 7 rfl
  have x8 := fx.int 8 rfl
  simp (disch := (first | omega | assumption | rfl | (simp only [hn_new, hn_put, skip_n]; omega))) only [go_sem, s45.len, p1, p2, xl, over_full]
  have k4 := (k3.new (.rows 14 [z14] false none none)).put (.rows 14 [x] false none none)
  generalize (h58.new (Blk.rows 14 [z14] false none none)).put h58.n (Blk.rows 14 [x] false none none) = h65 at k4 ⊢
  generalize hb63 : h58.n = b63 at k4 ⊢
  refine ⟨fun l h => Hs h0 [Cell b63 (.rows 14 [x] false none none), LsC 14 v45 rs, Cell b52 (.rows 1 (seenR n (seenF rs i)) false none none)] h, ?_, ?_⟩
  · have gx := k4.get
    have k5 := k4.more ((Keep.refl _ _).skip 54)
    have hprev : (0 < (i : Int) ∧ ∃ b o y, idxS 14 v45 ((i : Int) - 1) = some (b, o) ∧ cellG (o + 6) (h65.get b) = some (.int .i64 (cI y 6)) ∧ cI y 6 < cI x 6) ∨ ¬ 0 < (i : Int) := by
      by_cases hp : 0 < (i : Int)
      · obtain ⟨y, hy⟩ : ∃ y, rs[i - 1]? = some y := ⟨rs[i - 1], List.getElem?_eq_getElem (by omega)⟩
        obtain ⟨b, o, q1, _, q3, _⟩ := k4.at2.sl.idx hy
        refine .inl ⟨hp, b, o, y, by rw [← q1]; congr 1; omega, ?_, (hI.pw (i - 1) i y x (by omega) hy hxi).1⟩
        have := q3 6 (by omega); rw [cellQ_some _ _ _ (by omega), (hI.row y (List.mem_of_getElem? hy)).int 6 rfl] at this; exact this
      · exact .inr hp
    rcases frm with ⟨f0, f1, f2⟩
    have hn1 : ¬ (n : Int) ≤ cI x 7 := by omega
    by_cases hto : 0 ≤ cI x 7
    · have e8 : ¬ cI x 8 = 0 := by omega
      have hb1 : ¬ cI x 7 < 0 := by omega
      have hb2 : ¬ cI x 7 < cI x 6 := by omega
      rcases hprev with ⟨hp, b, o, y, q1, q2, q3⟩ | hp
      · have hb3 : ¬ cI x 6 ≤ cI y 6 := by omega
        simp (disch := (first | omega | assumption | rfl | (simp only [hn_new, hn_put, skip_n]; omega))) only [go_sem, gx, x6, x7, x8, len_sl, q1, q2]
        exact k5
      · simp (disch := (first | omega | assumption | rfl | (simp only [hn_new, hn_put, skip_n]; omega))) only [go_sem, gx, x6, x7, x8, len_sl]
        exact k5
    · have e8 : cI x 8 = 0 := by omega
      have hb1 : cI x 7 < 0 := by omega
      rcases hprev with ⟨hp, b, o, y, q1, q2, q3⟩ | hp
      · have hb3 : ¬ cI x 6 ≤ cI y 6 := by omega
        simp (disch := (first | omega | assumption | rfl | (simp only [hn_new, hn_put, skip_n]; omega))) only [go_sem, gx, x6, x7, x8, len_sl, q1, q2]
        exact k5
      · simp (disch := (first | omega | assumption | rfl | (simp only [hn_new, hn_put, skip_n]; omega))) only [go_sem, gx, x6, x7, x8, len_sl]
        exact k5
  intro h90 k5
  have k5 : Hs h0 [Cell b63 (.rows 14 [x] false none none), LsC 14 v45 rs, Cell b52 (.rows 1 (seenR n (seenF rs i)) false none none)] h90 := k5
  have gx := k5.get
  have gs := k5.at3.get
  obtain ⟨c, hc⟩ : ∃ c : Nat, cI x 6 = c := ⟨(cI x 6).toNat, by omega⟩
  have hcn : c < n := by omega
  have hbd := seenF_le rs i c
  rw [hc] at x6
  have i6 : idxS 1 (.sl b52 0 n n) (c : Int) = some (b52, c * 1) := by rw [idx_sl (by omega) (by omega)]; simp
  have k6 := k5.at3.put (.rows 1 (seenR n fun e => if e = c then seenF rs i c + 1 else seenF rs i e) false none none)
  have gx6 := k6.at2.get
  simp (disch := (first | omega | assumption | rfl | (simp only [hn_new, hn_put, skip_n]; omega))) only [go_sem, gx, x6, i6, gs, seen_ld _ hcn, seen_st _ _ hcn]
  refine ⟨fun l h => Hs h0 [Cell b52 (.rows 1 (seenR n (seenF rs (i + 1))) false none none), Cell b63 (.rows 14 [x] false none none), LsC 14 v45 rs] h, ?_, ?_⟩
  · by_cases hto : 0 ≤ cI x 7
    · obtain ⟨d, hd⟩ : ∃ d : Nat, cI x 7 = d := ⟨(cI x 7).toNat, by omega⟩
      have hdn : d < n := by omega
      have hdc : ¬ d = c := by omega
      rw [hd] at x7 hto
      have i7 : idxS 1 (.sl b52 0 n n) (d : Int) = some (b52, d * 1) := by rw [idx_sl (by omega) (by omega)]; simp
      have gs6 := k6.get
      have hbd2 := seenF_le rs i d
      have hl2 := seen_ld (n := n) (fun e => if e = c then seenF rs i c + 1 else seenF rs i e) hdn
      simp only [if_neg hdc] at hl2
      simp (disch := (first | omega | assumption | rfl | (simp only [hn_new, hn_put, skip_n]; omega))) only [go_sem, gx6, x7, i7, gs6, hl2, seen_st _ _ hdn]
      have := k6.put (.rows 1 (seenR n (seenF rs (i + 1))) false none none)
      have hfun : (fun e => if e = d then seenF rs i d + 1 else if e = c then seenF rs i c + 1 else seenF rs i e) = seenF rs (i + 1) := by
        funext e
        rw [seenF_succ hxi, hc, hd]
        by_cases h1 : e = d
        · subst h1; rw [if_pos rfl, if_neg (by omega), if_pos rfl]; omega
        · by_cases h2 : e = c
          · subst h2; rw [if_neg h1, if_pos rfl, if_pos rfl, if_neg (by omega)]; omega
          · rw [if_neg h1, if_neg h2, if_neg (by omega), if_neg (by omega)]; omega
      rw [hfun]
      exact this
    · simp (disch := (first | omega | assumption | rfl | (simp only [hn_new, hn_put, skip_n]; omega))) only [go_sem, gx6, x7]
      have hfun : (fun e => if e = c then seenF rs i c + 1 else seenF rs i e) = seenF rs (i + 1) := by
        funext e
        rw [seenF_succ hxi, hc]
        by_cases h2 : e = c
        · subst h2; rw [if_pos rfl, if_pos rfl, if_neg (by omega)]; omega
        · rw [if_neg h2, if_neg (by omega), if_neg (by omega)]; omega
      rw [← hfun]
      exact k6
  intro h108 k7
  have k7 : Hs h0 [Cell b52 (.rows 1 (seenR n (seenF rs (i + 1))) false none none), Cell b63 (.rows 14 [x] false none none), LsC 14 v45 rs] h108 := k7
  refine ⟨fun l m h => ∃ k : Nat, l = [.int .i64 k] ∧ m = i - k ∧ k ≤ i ∧ Hs h0 [Cell b52 (.rows 1 (seenR n (seenF rs (i + 1))) false none none), Cell b63 (.rows 14 [x] false none none), LsC 14 v45 rs] h, ⟨i, by omega, 0, rfl, by omega, by omega, k7⟩, ?_⟩
  intro n111 m112 h113 ⟨k, e, hm, hki, k8⟩
  cases e; subst hm
  by_cases hlt3 : (k : Int) < i
  · obtain ⟨y, hy⟩ : ∃ y, rs[k]? = some y := ⟨rs[k], List.getElem?_eq_getElem (by omega)⟩
    have fy := hI.row y (List.mem_of_getElem? hy)
    obtain ⟨b, o, q1, _, q3, _⟩ := k8.at3.sl.idx hy
    have gx8 := k8.at2.get
    have c0 : cellG o (h113.get b) = some (.int .i64 (cI y 0)) := by have := q3 0 (by omega); rw [cellQ_some _ _ _ (by omega), fy.int 0 rfl] at this; exact this
    have c1 : cellG (o + 1) (h113.get b) = some (.int .i64 (cI y 1)) := by have := q3 1 (by omega); rw [cellQ_some _ _ _ (by omega), fy.int 1 rfl] at this; exact this
    have c7 : cellG (o + 7) (h113.get b) = some (.int .i64 (cI y 7)) := by have := q3 7 (by omega); rw [cellQ_some _ _ _ (by omega), fy.int 7 rfl] at this; exact this
    have more : nxtN (fun l m h => ∃ k : Nat, l = [.int .i64 k] ∧ m = i - k ∧ k ≤ i ∧ Hs h0 [Cell b52 (.rows 1 (seenR n (seenF rs (i + 1))) false none none), Cell b63 (.rows 14 [x] false none none), LsC 14 v45 rs] h) (i - k) [.int .i64 ((k : Int) + 1)] (h113.skip 36) :=
      ⟨i - (k + 1), by omega, k + 1, by simp, rfl, by omega, k8.more ((Keep.refl _ _).skip 36)⟩
    by_cases hcl : cI y 0 = cI x 0
    · obtain ⟨w1, w2, w3⟩ := (hI.pw k i y x (by omega) hy hxi).2 hcl
      rw [hc] at w2
      have e1 : ¬ cI y 7 < 0 := by omega
      have e2 : ¬ (c : Int) < cI y 7 := by omega
      have e3 : ¬ cI x 1 ≤ cI y 1 := by omega
      simp (disch := (first | omega | assumption | rfl | (simp only [hn_new, hn_put, skip_n]; omega))) only [go_sem, q1, c0, gx8, x0, hcl, c7, x6, c1, x1]
      exact more
    · simp (disch := (first | omega | assumption | rfl | (simp only [hn_new, hn_put, skip_n]; omega))) only [go_sem, q1, c0, gx8, x0]
      exact more
  · simp (disch := (first | omega | assumption | rfl | (simp only [hn_new, hn_put, skip_n]; omega))) only [go_sem]
    exact ⟨rs.length - (i + 1), by omega, i + 1, by simp, rfl, by omega, k8.at2.drop.at2⟩
end Go.Proofs.Ytpfgbnmeaalpdaa
