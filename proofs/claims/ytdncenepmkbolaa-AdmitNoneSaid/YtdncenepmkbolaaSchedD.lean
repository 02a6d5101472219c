/-
  Classes: Pop.
-/
import Derived.Test.YtdncenepmkbolaaSchedC
namespace Go.Proofs.Ytdncenepmkbolaa
open Go Go.Abs Go.Abs.S Go.Abs.W
set_option maxRecDepth 10000
set_option maxHeartbeats 2000000
section
variable {h0 h : Go.Abs.H} {L : List Ch} {n s N : Nat} {v : AV} {cls : List Cl} {turn : Nat} {stale : Bool}
theorem pop_none (hn : 20 ≤ n) (k : Hs h0 (SL s v N cls (turn : Int) stale L) h) (w : ScOk N cls turn stale) (he : ∀ c ∈ cls, c.qs = []) :
    ∃ h', callX env sums n 33 [.ptr s 0] h = some (.tup [.agg zeroC, .bool false], h') ∧ Hs h0 (SL s v N cls (turn : Int) stale L) h' := by
  obtain ⟨n, rfl⟩ : ∃ k, n = k + 1 := ⟨n - 1, by omega⟩
  suffices hh : W.Spec env sums (n + 1) 33 [.ptr s 0] h (fun a h' => a = .tup [.agg zeroC, .bool false] ∧ Hs h0 (SL s v N cls (turn : Int) stale L) h') by
    obtain ⟨a, h', e, rfl, q⟩ := hh; exact ⟨h', e, q⟩
  have k1 := sl_in (k.new (.rows 29 [zeroC] false none none))
  have hall : (cls.all fun c => c.qs.isEmpty) = true := by
    rw [List.all_eq_true]; intro c hc; simp [he c hc]
  refine spec_trN [.ptr s 0] rfl ft33 (by kernel_rfl) (tn33 ..) ?_
  simp (disch := (first | omega | assumption | rfl | (simp only [hn_new, hn_put, skip_n]; omega))) only [go_sem, s_none (n := n) (by omega) k1 w.ne]
  refine on2_ex (s_empty (by omega) k1 w.le) fun h8 k2 => ?_
  have g := (sl_out k2).get
  have ov : over zeroC zeroC = some zeroC := over_full rfl
  rw [hall]
  simp (disch := (first | omega | assumption | rfl | (simp only [hn_new, hn_put, skip_n]; omega))) only [go_sem, g, ov, AV.noTup]
  exact ((sl_out k2).put _).drop
/-- what Pop comes to -/
def PopP (h0 : Go.Abs.H) (s : Nat) (v : AV) (N : Nat) (L : List Ch) (cls : List Cl) (turn : Nat) (stale : Bool) (x : AV) (h' : Go.Abs.H) : Prop :=
  ∃ (g : Fr) (i : Nat) (cls' : List Cl) (t' : Nat) (st' : Bool), x = .tup [.agg g.cs, .bool true] ∧ PopR cls turn stale (af g) i cls' t' st' ∧ ScOk N cls' t' st' ∧ Hs h0 (SL s v N cls' (t' : Int) st' L) h'
theorem pop_some (hn : 30 ≤ n) (k : Hs h0 (SL s v N cls (turn : Int) stale L) h) (w : ScOk N cls turn stale) (he : ∃ c ∈ cls, c.qs ≠ []) :
    ∃ x h', callX env sums n 33 [.ptr s 0] h = some (x, h') ∧ PopP h0 s v N L cls turn stale x h' := by
  obtain ⟨n, rfl⟩ : ∃ k, n = k + 1 := ⟨n - 1, by omega⟩
  suffices hh : W.Spec env sums (n + 1) 33 [.ptr s 0] h (fun a h' => PopP h0 s v N L cls turn stale a h') by
    obtain ⟨a, h', e, q⟩ := hh; exact ⟨a, h', e, q⟩
  have k1 := sl_in (k.new (.rows 29 [zeroC] false none none))
  have hall : (cls.all fun c => c.qs.isEmpty) = false := by
    obtain ⟨c, hc, hq⟩ := he
    rw [List.all_eq_false]; exact ⟨c, hc, by cases hqs : c.qs <;> simp_all⟩
  obtain ⟨c0, hc0, hq0⟩ := he
  obtain ⟨d0, hd0, hd0'⟩ := List.mem_iff_getElem.1 hc0
  refine spec_trN [.ptr s 0] rfl ft33 (by kernel_rfl) (tn33 ..) ?_
  simp (disch := (first | omega | assumption | rfl | (simp only [hn_new, hn_put, skip_n]; omega))) only [go_sem, s_none (n := n) (by omega) k1 w.ne]
  refine on2_ex (s_empty (by omega) k1 w.le) fun h8 k2 => ?_
  rw [hall]
  simp (disch := (first | omega | assumption | rfl | (simp only [hn_new, hn_put, skip_n]; omega))) only [go_sem]
  generalize hb0 : h.n = b0 at k2 ⊢
  have hle := w.le
  have htl := w.tlt
  have hp := next_lt (t := turn) (m := cls.length) (by omega)
  refine ⟨fun l m h => ∃ (cl : List Cl) (t : Nat) (st : Bool) (d : Nat) (c : Cl), cl.length = cls.length ∧ d < cl.length ∧ cl[(t + d) % cl.length]? = some c ∧ c.qs ≠ [] ∧ m = (if st then cl.length + 1 else 0) + d ∧ ScOk N cl t st ∧ (∀ a i cls' t' st', PopR cl t st a i cls' t' st' → PopR cls turn stale a i cls' t' st') ∧ Hs h0 (SL s v N cl (t : Int) st (Cell b0 (.rows 29 [zeroC] false none none) :: L)) h, ⟨_, ?_, cls, turn, stale, (d0 + cls.length - turn) % cls.length, c0, rfl, Nat.mod_lt _ (by omega), ?_, hq0, rfl, w, fun _ _ _ _ _ k => k, k2⟩, ?_⟩
  · have := Nat.mod_lt (d0 + cls.length - turn) (show 0 < cls.length by omega)
    split <;> omega
  · rw [Nat.add_mod_mod, show turn + (d0 + cls.length - turn) = d0 + cls.length by omega, Nat.add_mod_right, Nat.mod_eq_of_lt hd0, List.getElem?_eq_getElem hd0, hd0']
  intro m14 h15 ⟨cl, t, st, d, c1, hlen, hd, hc1, hq1, hm, w', hR, k15⟩
  subst hm
  have htl' := w'.tlt
  obtain ⟨c, hc⟩ : ∃ c, cl[t]? = some c := ⟨cl[t], List.getElem?_eq_getElem htl'⟩
  have cok := w'.ok c (List.mem_of_getElem? hc)
  have k17 := k15.more ((Keep.refl _ _).skip 10)
  obtain ⟨b, o, e1, _, e3, _⟩ := k15.at2.sl.idx (rows_get hc)
  have gs := k15.get
  have g0 : cellG o (h15.get b) = some (.ptr c.r 0) := by have := e3 0 (by omega); rw [cellQ_some _ _ _ (by omega)] at this; exact this
  simp (disch := (first | omega | assumption | rfl | (simp only [hn_new, hn_put, skip_n]; omega))) only [go_sem, gs, e1, g0]
  cases hqs : c.qs with
  | nil =>
    have kr := ring_out hc k17
    rw [hqs] at kr
    refine on2_ex (ring_front_no (by omega) kr) fun h24 k24 => ?_
    rw [← hqs] at k24
    have k31 := sl_in (((ring_back hc k24).new (.rows 29 [zeroC] false none none)).put (.rows 29 [zeroC] false none none))
    have ov : over zeroC zeroC = some zeroC := over_full rfl
    obtain ⟨b', o', h32, q1, q2, k32⟩ := cr_write k31 hc 0
    rw [e1] at q1; cases q1
    simp (disch := (first | omega | assumption | rfl | (simp only [hn_new, hn_put, skip_n]; omega))) only [go_sem, ov, q2]
    have w2 := w'.skip hc
    obtain ⟨h34, e34, k34⟩ := s_next (n := n) (by omega) k32 w2.ne (by simpa using htl') (by simpa using w'.le)
    simp (disch := (first | omega | assumption | rfl | (simp only [hn_new, hn_put, skip_n]; omega))) only [go_sem, e34]
    rw [List.length_set] at k34
    have hd0 : d ≠ 0 := by
      rintro rfl
      rw [Nat.add_zero, Nat.mod_eq_of_lt htl', hc] at hc1; cases hc1
      exact hq1 hqs
    have hmod : (nextT t cl.length + (d - 1)) % cl.length = (t + d) % cl.length := by
      unfold nextT; rw [Nat.mod_add_mod]; congr 1; omega
    have hne : (t + d) % cl.length ≠ t := by
      intro e; rw [e, hc] at hc1; cases hc1; exact hq1 hqs
    refine ⟨d - 1, by split <;> omega, cl.set t { c with cr := 0 }, nextT t cl.length, false, d - 1, c1, by simpa using hlen, by simp; omega, ?_, hq1, by simp, by simpa using w2, fun a i cls' t' st' k => hR _ _ _ _ _ (.skip hc hqs k), (sl_out k34).drop⟩
    rw [List.length_set, hmod, List.getElem?_set_ne (fun e => hne e.symm)]; exact hc1
  | cons a rest =>
    have kr := ring_out hc k17
    rw [hqs] at kr
    refine on2_exb (g := fun g : Fr => .tup [.agg g.cs, .bool true]) (ring_front (by omega) kr) fun g h24 ⟨hga, k24⟩ => ?_
    rw [← hqs] at k24
    have ov : over g.cs zeroC = some g.cs := over_full g.len
    have k31 := sl_in (((ring_back hc k24).new (.rows 29 [zeroC] false none none)).put (.rows 29 [g.cs] false none none))
    have hgop := fr_op g
    rw [hga] at hgop
    have oka := cok.ops a (by rw [hqs]; simp)
    have hca := cost_range oka
    have hcr0 := cok.cr
    have hcq := cok.q
    have hsv := cok.sv
    have hcrb := w'.cr t c hc
    have gs31 := k31.get
    simp (disch := (first | omega | assumption | rfl | (simp only [hn_new, hn_put, skip_n]; omega))) only [go_sem, g.len, ov]
    generalize hh31 : (h24.new (Blk.rows 29 [zeroC] false none none)).put h24.n (Blk.rows 29 [g.cs] false none none) = h31 at k31 gs31 ⊢
    generalize hb29 : h24.n = b29 at k31 ⊢
    cases st with
    | false =>
      rw [if_neg (by simp)] at hcrb
      have hcost : costO (opOf a) ≤ c.cr + (if (false : Bool) then 0 else c.q) := by simp; omega
      have k37 := k31.more ((Keep.refl _ _).skip 12)
      obtain ⟨b1, o1, x1, _, x3, _⟩ := k31.at2.sl.idx (rows_get hc)
      rw [e1] at x1; cases x1
      have c2 : cellG (o + 2) (h31.get b) = some (.int .i64 c.cr) := by have := x3 2 (by omega); rw [cellQ_some _ _ _ (by omega)] at this; exact this
      have c3 : cellG (o + 1) (h31.get b) = some (.int .i64 c.q) := by have := x3 1 (by omega); rw [cellQ_some _ _ _ (by omega)] at this; exact this
      obtain ⟨b2, o2, h40, p1, p2, k40⟩ := cr_write k37 hc (c.cr + c.q)
      rw [e1] at p1; cases p1
      rw [skip_get] at p2
      have gs40 := k40.get
      have k41 := k40.put (.rows 3 [[v, .int .i64 t, .bool true]] false none none)
      have g29 := (sl_out k41).get
      simp (disch := (first | omega | assumption | rfl | (simp only [hn_new, hn_put, skip_n]; omega))) only [go_sem, gs31, c2, c3, p2, gs40, g29, hgop]
      refine on2_ex (cost_y (by omega) oka) fun h44 kp => ?_
      have k44 := k41.more kp
      obtain ⟨cx, hcxe⟩ : ∃ cx : Cl, { c with cr := c.cr + c.q } = cx := ⟨_, rfl⟩
      obtain ⟨clx, hclx⟩ : ∃ clx, cl.set t { c with cr := c.cr + c.q } = clx := ⟨_, rfl⟩
      rw [hclx] at k44
      have hlx : clx.length = cl.length := by rw [← hclx, List.length_set]
      have hcx : clx[t]? = some cx := by rw [← hclx, ← hcxe]; exact List.getElem?_set_self htl'
      have hcxq : cx.qs = a :: rest := by rw [← hcxe]; exact hqs
      have hnx : clx ≠ [] := by intro e; rw [e] at hlx; simp at hlx; omega
      have hxcr : cx.cr = c.cr + c.q := by rw [← hcxe]
      have hxsv : cx.sv = c.sv := by rw [← hcxe]

      have hsv2 : 0 ≤ cx.sv ∧ cx.sv ≤ 4611686018427387904 := by rw [hxsv]; exact hsv
      obtain ⟨b4, o4, u1, _, u3, _⟩ := k44.at2.sl.idx (rows_get hcx)
      rw [e1] at u1; cases u1
      have v0 : cellG o (h44.get b) = some (.ptr cx.r 0) := by have := u3 0 (by omega); rw [cellQ_some _ _ _ (by omega)] at this; exact this
      have v2 : cellG (o + 2) (h44.get b) = some (.int .i64 cx.cr) := by have := u3 2 (by omega); rw [cellQ_some _ _ _ (by omega)] at this; exact this
      have hncost : ¬ cx.cr < costO (opOf a) := by omega
      have kr4 := ring_out hcx k44
      rw [hcxq] at kr4
      simp (disch := (first | omega | assumption | rfl | (simp only [hn_new, hn_put, skip_n]; omega))) only [go_sem, v0, v2]
      refine on2_exb (g := fun g : Fr => .tup [.agg g.cs, .bool true]) (ring_pop (by omega) kr4) fun g' h51 ⟨_, k51⟩ => ?_
      have k51 := ring_new_in hcx k51
      have hc2 : (clx.set t { cx with qs := rest })[t]? = some { cx with qs := rest } := List.getElem?_set_self (by rw [hlx]; exact htl')
      obtain ⟨b5, o5, w1, _, w3, _⟩ := k51.at2.sl.idx (rows_get hc2)
      rw [e1] at w1; cases w1
      have y2 : cellG (o + 2) (h51.get b) = some (.int .i64 cx.cr) := by have := w3 2 (by omega); rw [cellQ_some _ _ _ (by omega)] at this; exact this
      obtain ⟨b6, o6, h53, z1, z2, k53⟩ := cr_write k51 hc2 (cx.cr - costO (opOf a))
      rw [e1] at z1; cases z1
      rw [List.set_set] at k53
      have hc3 : (clx.set t { cx with qs := rest, cr := cx.cr - costO (opOf a) })[t]? = some { cx with qs := rest, cr := cx.cr - costO (opOf a) } := List.getElem?_set_self (by rw [hlx]; exact htl')
      obtain ⟨b7, o7, m1, _, m3, _⟩ := k53.at2.sl.idx (rows_get hc3)
      rw [e1] at m1; cases m1
      have y3 : cellG (o + 3) (h53.get b) = some (.int .i64 cx.sv) := by have := m3 3 (by omega); rw [cellQ_some _ _ _ (by omega)] at this; exact this
      obtain ⟨b8, o8, h55, q1, q2, k55⟩ := sv_write k53 hc3 (min (cx.sv + costO (opOf a)) 4611686018427387904)
      rw [e1] at q1; cases q1
      rw [List.set_set] at k55
      have hc4 : (clx.set t { cx with qs := rest, cr := cx.cr - costO (opOf a), sv := min (cx.sv + costO (opOf a)) 4611686018427387904 })[t]? = some { cx with qs := rest, cr := cx.cr - costO (opOf a), sv := min (cx.sv + costO (opOf a)) 4611686018427387904 } := List.getElem?_set_self (by rw [hlx]; exact htl')
      obtain ⟨b9, o9, r1, _, r3, _⟩ := k55.at2.sl.idx (rows_get hc4)
      rw [e1] at r1; cases r1
      have y0 : cellG o (h55.get b) = some (.ptr cx.r 0) := by have := r3 0 (by omega); rw [cellQ_some _ _ _ (by omega)] at this; exact this
      have hlen5 := ring_len (n := n) (by omega) (ring_out hc4 k55)
      by_cases hr : rest = []
      · have hl0 : (rest.length : Int) = 0 := by rw [hr]; rfl
        obtain ⟨b10, o10, h60, s1, s2, k60⟩ := cr_write k55 hc4 0
        rw [e1] at s1; cases s1
        rw [List.set_set] at k60
        obtain ⟨h62, e62, k62⟩ := s_next (n := n) (by omega) k60 (by intro e; rw [List.set_eq_nil_iff] at e; exact hnx e) (by rw [List.length_set, hlx]; exact htl') (by rw [List.length_set, hlx]; exact w'.le)
        rw [List.length_set, hlx] at k62
        have g29 := (sl_out k62).get
        have kk := sl_out (sl_out k62).drop
        have g00 := kk.get
        have ov2 : over g.cs zeroC = some g.cs := over_full g.len
        simp (disch := (first | omega | assumption | rfl | (simp only [hn_new, hn_put, skip_n]; omega))) only [go_sem, y2, z2, y3, q2, y0, hlen5, hl0, s2, e62, g29, g.len, g00, ov2, AV.noTup]
        refine ⟨g, t, _, _, _, rfl, ?_, ?_, (kk.put _).drop⟩
        · have := hR _ _ _ _ _ (PopR.take hc hqs hcost)
          subst hr
          simp only [if_true, ne_eq, not_true_eq_false, decide_false] at this
          rw [hga]
          rw [← hclx, ← hcxe, List.set_set]; exact this
        · have := w'.take hc hqs hcost
          subst hr
          simp only [if_true, ne_eq, not_true_eq_false, decide_false] at this
          rw [← hclx, ← hcxe, List.set_set]; exact this
      · have hl0 : ¬ (rest.length : Int) = 0 := by have := List.length_pos_iff.2 hr; omega
        have g29 := (sl_out k55).get
        have kk := sl_out (sl_out k55).drop
        have g00 := kk.get
        have ov2 : over g.cs zeroC = some g.cs := over_full g.len
        simp (disch := (first | omega | assumption | rfl | (simp only [hn_new, hn_put, skip_n]; omega))) only [go_sem, y2, z2, y3, q2, y0, hlen5, hl0, g29, g.len, g00, ov2, AV.noTup]
        refine ⟨g, t, _, _, _, rfl, ?_, ?_, (kk.put _).drop⟩
        · have := hR _ _ _ _ _ (PopR.take hc hqs hcost)
          simp only [hr, if_false, ne_eq, not_false_eq_true, decide_true] at this
          rw [hga]
          rw [← hclx, ← hcxe, List.set_set]; exact this
        · have := w'.take hc hqs hcost
          simp only [hr, if_false, ne_eq, not_false_eq_true, decide_true] at this
          rw [← hclx, ← hcxe, List.set_set]; exact this
    | true =>
      rw [if_pos ⟨rfl, rfl⟩] at hcrb
      have g29 := (sl_out k31).get
      obtain ⟨b1, o1, x1, _, x3, _⟩ := k31.at2.sl.idx (rows_get hc)
      rw [e1] at x1; cases x1
      simp (disch := (first | omega | assumption | rfl | (simp only [hn_new, hn_put, skip_n]; omega))) only [go_sem, gs31, g29, hgop]
      refine on2_ex (cost_y (by omega) oka) fun h44 kp => ?_
      have k44 := k31.more kp
      by_cases hcost' : c.cr < costO (opOf a)
      · obtain ⟨b4, o4, u1, _, u3, _⟩ := k44.at2.sl.idx (rows_get hc)
        rw [e1] at u1; cases u1
        have v2 : cellG (o + 2) (h44.get b) = some (.int .i64 c.cr) := by have := u3 2 (by omega); rw [cellQ_some _ _ _ (by omega)] at this; exact this
        obtain ⟨h48, e48, k48⟩ := s_next (n := n) (by omega) k44 w'.ne htl' w'.le
        simp (disch := (first | omega | assumption | rfl | (simp only [hn_new, hn_put, skip_n]; omega))) only [go_sem, v2, e48]
        refine ⟨cl.length - 1, by simp; omega, cl, nextT t cl.length, false, cl.length - 1, c, hlen, by omega, ?_, by rw [hqs]; simp, by simp, w'.pass hc hqs hcost', fun a i cls' t' st' k => hR _ _ _ _ _ (.pass hc hqs hcost' k), (sl_out k48).drop⟩
        have : (nextT t cl.length + (cl.length - 1)) % cl.length = t := by
          unfold nextT; rw [Nat.mod_add_mod, show t + 1 + (cl.length - 1) = t + cl.length by omega, Nat.add_mod_right, Nat.mod_eq_of_lt htl']
        rw [this]; exact hc
      have hcost : costO (opOf a) ≤ c.cr + (if (true : Bool) then 0 else c.q) := by simp; omega
      obtain ⟨cx, hcxe⟩ : ∃ cx : Cl, c = cx := ⟨_, rfl⟩
      obtain ⟨clx, hclx⟩ : ∃ clx, cl = clx := ⟨_, rfl⟩
      have hlx : clx.length = cl.length := by rw [hclx]
      rw [hclx] at k44
      have hcx : clx[t]? = some cx := by rw [← hclx, ← hcxe]; exact hc
      have hcxq : cx.qs = a :: rest := by rw [← hcxe]; exact hqs
      have hnx : clx ≠ [] := by rw [← hclx]; exact w'.ne
      have hxcr : cx.cr = c.cr := by rw [hcxe]
      have hxsv : cx.sv = c.sv := by rw [hcxe]

      have hsv2 : 0 ≤ cx.sv ∧ cx.sv ≤ 4611686018427387904 := by rw [hxsv]; exact hsv
      obtain ⟨b4, o4, u1, _, u3, _⟩ := k44.at2.sl.idx (rows_get hcx)
      rw [e1] at u1; cases u1
      have v0 : cellG o (h44.get b) = some (.ptr cx.r 0) := by have := u3 0 (by omega); rw [cellQ_some _ _ _ (by omega)] at this; exact this
      have v2 : cellG (o + 2) (h44.get b) = some (.int .i64 cx.cr) := by have := u3 2 (by omega); rw [cellQ_some _ _ _ (by omega)] at this; exact this
      have hncost : ¬ cx.cr < costO (opOf a) := by omega
      have kr4 := ring_out hcx k44
      rw [hcxq] at kr4
      simp (disch := (first | omega | assumption | rfl | (simp only [hn_new, hn_put, skip_n]; omega))) only [go_sem, v0, v2]
      refine on2_exb (g := fun g : Fr => .tup [.agg g.cs, .bool true]) (ring_pop (by omega) kr4) fun g' h51 ⟨_, k51⟩ => ?_
      have k51 := ring_new_in hcx k51
      have hc2 : (clx.set t { cx with qs := rest })[t]? = some { cx with qs := rest } := List.getElem?_set_self (by rw [hlx]; exact htl')
      obtain ⟨b5, o5, w1, _, w3, _⟩ := k51.at2.sl.idx (rows_get hc2)
      rw [e1] at w1; cases w1
      have y2 : cellG (o + 2) (h51.get b) = some (.int .i64 cx.cr) := by have := w3 2 (by omega); rw [cellQ_some _ _ _ (by omega)] at this; exact this
      obtain ⟨b6, o6, h53, z1, z2, k53⟩ := cr_write k51 hc2 (cx.cr - costO (opOf a))
      rw [e1] at z1; cases z1
      rw [List.set_set] at k53
      have hc3 : (clx.set t { cx with qs := rest, cr := cx.cr - costO (opOf a) })[t]? = some { cx with qs := rest, cr := cx.cr - costO (opOf a) } := List.getElem?_set_self (by rw [hlx]; exact htl')
      obtain ⟨b7, o7, m1, _, m3, _⟩ := k53.at2.sl.idx (rows_get hc3)
      rw [e1] at m1; cases m1
      have y3 : cellG (o + 3) (h53.get b) = some (.int .i64 cx.sv) := by have := m3 3 (by omega); rw [cellQ_some _ _ _ (by omega)] at this; exact this
      obtain ⟨b8, o8, h55, q1, q2, k55⟩ := sv_write k53 hc3 (min (cx.sv + costO (opOf a)) 4611686018427387904)
      rw [e1] at q1; cases q1
      rw [List.set_set] at k55
      have hc4 : (clx.set t { cx with qs := rest, cr := cx.cr - costO (opOf a), sv := min (cx.sv + costO (opOf a)) 4611686018427387904 })[t]? = some { cx with qs := rest, cr := cx.cr - costO (opOf a), sv := min (cx.sv + costO (opOf a)) 4611686018427387904 } := List.getElem?_set_self (by rw [hlx]; exact htl')
      obtain ⟨b9, o9, r1, _, r3, _⟩ := k55.at2.sl.idx (rows_get hc4)
      rw [e1] at r1; cases r1
      have y0 : cellG o (h55.get b) = some (.ptr cx.r 0) := by have := r3 0 (by omega); rw [cellQ_some _ _ _ (by omega)] at this; exact this
      have hlen5 := ring_len (n := n) (by omega) (ring_out hc4 k55)
      by_cases hr : rest = []
      · have hl0 : (rest.length : Int) = 0 := by rw [hr]; rfl
        obtain ⟨b10, o10, h60, s1, s2, k60⟩ := cr_write k55 hc4 0
        rw [e1] at s1; cases s1
        rw [List.set_set] at k60
        obtain ⟨h62, e62, k62⟩ := s_next (n := n) (by omega) k60 (by intro e; rw [List.set_eq_nil_iff] at e; exact hnx e) (by rw [List.length_set, hlx]; exact htl') (by rw [List.length_set, hlx]; exact w'.le)
        rw [List.length_set, hlx] at k62
        have g29 := (sl_out k62).get
        have kk := sl_out (sl_out k62).drop
        have g00 := kk.get
        have ov2 : over g.cs zeroC = some g.cs := over_full g.len
        simp (disch := (first | omega | assumption | rfl | (simp only [hn_new, hn_put, skip_n]; omega))) only [go_sem, y2, z2, y3, q2, y0, hlen5, hl0, s2, e62, g29, g.len, g00, ov2, AV.noTup]
        refine ⟨g, t, _, _, _, rfl, ?_, ?_, (kk.put _).drop⟩
        · have := hR _ _ _ _ _ (PopR.take hc hqs hcost)
          subst hr
          simp only [if_true, ne_eq, not_true_eq_false, decide_false] at this
          rw [hga]
          rw [← hclx, ← hcxe]; simpa using this
        · have := w'.take hc hqs hcost
          subst hr
          simp only [if_true, ne_eq, not_true_eq_false, decide_false] at this
          rw [← hclx, ← hcxe]; simpa using this
      · have hl0 : ¬ (rest.length : Int) = 0 := by have := List.length_pos_iff.2 hr; omega
        have g29 := (sl_out k55).get
        have kk := sl_out (sl_out k55).drop
        have g00 := kk.get
        have ov2 : over g.cs zeroC = some g.cs := over_full g.len
        simp (disch := (first | omega | assumption | rfl | (simp only [hn_new, hn_put, skip_n]; omega))) only [go_sem, y2, z2, y3, q2, y0, hlen5, hl0, g29, g.len, g00, ov2, AV.noTup]
        refine ⟨g, t, _, _, _, rfl, ?_, ?_, (kk.put _).drop⟩
        · have := hR _ _ _ _ _ (PopR.take hc hqs hcost)
          simp only [hr, if_false, ne_eq, not_false_eq_true, decide_true] at this
          rw [hga]
          rw [← hclx, ← hcxe]; simpa using this
        · have := w'.take hc hqs hcost
          simp only [hr, if_false, ne_eq, not_false_eq_true, decide_true] at this
          rw [← hclx, ← hcxe]; simpa using this
end
end Go.Proofs.Ytdncenepmkbolaa
