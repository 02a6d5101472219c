/-
  Who may wait: a call is offered.
-/
import Derived.Test.YtdncenepmkbolaaAdmitG
namespace Go.Proofs.Ytdncenepmkbolaa
open Go Go.Abs Go.Abs.S Go.Abs.W
set_option maxRecDepth 10000
set_option maxHeartbeats 4000000
section
variable {h h0 : Go.Abs.H} {n a s k i N : Nat} {L : List Ch} {cl q turn : Int} {stale : Bool} {v : AV} {cls : List Cl} {bs : List (Int × Int)} {ws : List Int} {p : Int × Int} {b : AF} {c : Cl}
theorem ad_nth {j : Nat} (h6 : bs.length = 6) : nth (adRow s cl q bs ws) (15 + j) = (ws[j]?).map (AV.int .i64) := by
  unfold adRow
  rw [nth_eq, List.getElem?_append_right (by simp; omega), List.getElem?_append_right (by rw [prs_len, h6]; simp; omega), prs_len, h6, List.getElem?_map]
  congr 2; simp; omega
theorem ad_wait {w : Int} (k : Hs h0 (AdC a s cl q bs ws :: L) h) (h6 : bs.length = 6) (hi : i < 6) (hw : ws[i]? = some w) : cellG (15 + i * 1) (h.get a) = some (.int .i64 w) := by
  rw [Nat.mul_one, k.get, cellG_one _ _ _ _ _ _ (by omega) (by omega), ad_nth h6, hw]; rfl
theorem ad_wset (k : Hs h0 (AdC a s cl q bs ws :: L) h) (h6 : bs.length = 6) (w6 : ws.length = 6) (hi : i < 6) (x : Int) : ∃ h', storeB h a (15 + i * 1) [.int .i64 x] (h.get a) = some h' ∧ Hs h0 (AdC a s cl q bs (ws.set i x) :: L) h' := by
  refine ⟨h.put a (.rows 21 [adRow s cl q bs (ws.set i x)] false none none), ?_, k.put _⟩
  have e := st_one (b := a) (i := 15 + i) (x := .int .i64 x) h (r := adRow s cl q bs ws) (by rw [ad_len h6 w6]; omega)
  rw [ad_len h6 w6] at e
  have es : (adRow s cl q bs ws).set (15 + i) (.int .i64 x) = adRow s cl q bs (ws.set i x) := by
    unfold adRow
    rw [List.set_append_right _ _ (by simp; omega), List.set_append_right _ _ (by rw [prs_len, h6]; simp; omega), prs_len, h6, List.map_set]
    congr 3; simp; omega
  rw [Nat.mul_one, k.get, e, es]
/-- what an offer comes to -/
def offR (bs : List (Int × Int)) (ws : List Int) (full : Bool) (cl : Nat) (s t d now : Int) : Int × List (Int × Int) × List Int :=
  match bs[cl]?, ws[cl]? with
  | some p, some w =>
    if ¬ before p (s, t) then (7, bs, ws)
    else if w = s then (6, bs, ws)
    else if w ≠ 0 then (1, barB bs cl (s, t), ws)
    else if d < now then (2, barB bs cl (s, t), ws)
    else if full then (1, barB bs cl (s, t), ws)
    else (0, bs, ws.set cl s)
  | _, _ => (0, bs, ws)
theorem sl_in2 {X Y : Ch} (k : Hs h0 (X :: Y :: SL s v N cls turn stale L) h) : Hs h0 (SL s v N cls turn stale (X :: Y :: L)) h := k.perm (List.perm_append_comm_assoc [X, Y] (ScC s v turn stale :: LsC 4 v (cls.map Cl.row) :: rings N cls) L)
theorem sl_out2 {X Y : Ch} (k : Hs h0 (SL s v N cls turn stale (X :: Y :: L)) h) : Hs h0 (X :: Y :: SL s v N cls turn stale L) h := k.perm (List.perm_append_comm_assoc [X, Y] (ScC s v turn stale :: LsC 4 v (cls.map Cl.row) :: rings N cls) L).symm
theorem front_ad (k : Hs h0 (AdC a s cl q bs ws :: SL s v N cls turn stale L) h) : Hs h0 (SL s v N cls turn stale (AdC a s cl q bs ws :: L)) h := sl_in k
theorem adm_offer {cln : Nat} {now : Int} (hn : 20 ≤ n) (k : Hs h0 (AdC a s cl q bs ws :: SL s v N cls turn stale L) h) (hc : 1 ≤ cl ∧ cl ≤ 6) (hq : 1 ≤ q ∧ q ≤ 4) (hql : (cls.length : Int) = q) (h6 : bs.length = 6) (w6 : ws.length = 6) (f : Fr) (hf : CaOk cl i (af f)) (hci : cls[i]? = some c) (hcl : cI (af f).1 2 = cln) (hd : 0 ≤ cI (af f).1 6 ∧ cI (af f).1 6 ≤ 1099511627776) :
    ∃ h', callX env sums n 54 [.ptr a 0, .agg f.cs, .int .i64 now] h = some (.int .i64 (offR bs ws (decide (N ≤ c.qs.length)) cln (cI (af f).1 3) (cI (af f).1 4) (cI (af f).1 6) now).1, h') ∧
      Hs h0 (AdC a s cl q (offR bs ws (decide (N ≤ c.qs.length)) cln (cI (af f).1 3) (cI (af f).1 4) (cI (af f).1 6) now).2.1 (offR bs ws (decide (N ≤ c.qs.length)) cln (cI (af f).1 3) (cI (af f).1 4) (cI (af f).1 6) now).2.2 ::
        SL s v N (if (offR bs ws (decide (N ≤ c.qs.length)) cln (cI (af f).1 3) (cI (af f).1 4) (cI (af f).1 6) now).1 = 0 then cls.set i { c with qs := c.qs ++ [af f] } else cls) turn stale L) h' := by
  obtain ⟨n, rfl⟩ : ∃ k, n = k + 1 := ⟨n - 1, by omega⟩
  obtain ⟨sq, hsq⟩ : ∃ sq, cI (af f).1 3 = sq := ⟨_, rfl⟩
  obtain ⟨tr, htr⟩ : ∃ tr, cI (af f).1 4 = tr := ⟨_, rfl⟩
  obtain ⟨dl, hdl⟩ : ∃ dl, cI (af f).1 6 = dl := ⟨_, rfl⟩
  have hil := (List.getElem?_eq_some_iff.1 hci).1
  have hcln : cln < 6 ∧ (cln : Int) < cl := by have := hf.r2; rw [hcl] at this; omega
  obtain ⟨p, hp⟩ : ∃ p, bs[cln]? = some p := ⟨bs[cln]'(by omega), List.getElem?_eq_getElem _⟩
  obtain ⟨w, hw⟩ : ∃ w, ws[cln]? = some w := ⟨ws[cln]'(by omega), List.getElem?_eq_getElem _⟩
  generalize hO : offR bs ws (decide (N ≤ c.qs.length)) cln (cI (af f).1 3) (cI (af f).1 4) (cI (af f).1 6) now = O
  have hO' : O = if ¬ before p (sq, tr) then (7, bs, ws) else if w = sq then (6, bs, ws) else if w ≠ 0 then (1, barB bs cln (sq, tr), ws) else if dl < now then (2, barB bs cln (sq, tr), ws) else if decide (N ≤ c.qs.length) = true then (1, barB bs cln (sq, tr), ws) else (0, bs, ws.set cln sq) := by
    rw [← hO, hsq, htr, hdl]; unfold offR; rw [hp, hw]
  suffices hh : W.Spec env sums (n + 1) 54 [.ptr a 0, .agg f.cs, .int .i64 now] h (fun r h' => r = .int .i64 O.1 ∧ Hs h0 (AdC a s cl q O.2.1 O.2.2 :: SL s v N (if O.1 = 0 then cls.set i { c with qs := c.qs ++ [af f] } else cls) turn stale L) h') by
    obtain ⟨r, h', e, rfl, q⟩ := hh; exact ⟨h', e, q⟩
  have r3 := hf.r3
  have r4 := hf.r4
  rw [hsq] at r3; rw [htr] at r4
  have k1 := k.new (.rows 29 [f.cs] false none none)
  refine spec_trN [.ptr a 0, .agg f.cs, .int .i64 now] rfl ft54 (by kernel_rfl) (tn54 ..) ?_
  refine ⟨by rw [lenN_eq]; exact f.len, ?_⟩
  rw [show ∀ K, (stdN env (callX env sums n) n).new h (.rows 29 [f.cs] false none none) K = K h.n (h.new (.rows 29 [f.cs] false none none)) from fun _ => rfl]
  generalize h.new (.rows 29 [f.cs] false none none) = H1 at k1 ⊢
  generalize h.n = b1 at k1 ⊢
  have box : ∀ {bs : List (Int × Int)} {ws : List Int} {cls : List Cl} {H : Go.Abs.H}, Hs h0 (Cell b1 (.rows 29 [f.cs] false none none) :: AdC a s cl q bs ws :: SL s v N cls turn stale L) H → loadG 0 29 (H.get b1) = some f.cs ∧ cellG 2 (H.get b1) = some (.int .i64 cln) ∧ cellG 3 (H.get b1) = some (.int .i64 sq) ∧ cellG 4 (H.get b1) = some (.int .i64 tr) ∧ cellG 6 (H.get b1) = some (.int .i64 dl) := by
    intro bs ws cls H k
    rw [k.get]
    refine ⟨by rw [loadG_zero _ _ _ _ _ (by omega)]; rfl, ?_, ?_, ?_, ?_⟩
    · rw [← hcl]; exact fr_cell f (by omega) hf.c2
    · rw [← hsq]; exact fr_cell f (by omega) hf.c3
    · rw [← htr]; exact fr_cell f (by omega) hf.c4
    · rw [← hdl]; exact fr_cell f (by omega) hf.c6
  have arc := arr6 hcln.1
  obtain ⟨l0, _⟩ := box k1
  simp (disch := (first | omega | assumption | rfl | (simp only [hn_new, hn_put, skip_n]; omega))) only [go_sem, l0]
  refine on2_ex (adm_may (n := n) (by omega) k1.at2 hc hq f hf (by omega) hd) fun h4 kp => ?_
  have k7 := (k1.more kp).more ((Keep.refl _ _).skip 8)
  obtain ⟨_, y2, y3, y4, y6⟩ := box k7
  have yw := ad_wait k7.at2 h6 hcln.1 hw
  rw [skip_get] at y2 y3 y4 y6 yw
  simp (disch := (first | omega | assumption | rfl | (simp only [hn_new, hn_put, skip_n]; omega))) only [go_sem, y2, y3, y4, arc, yw]
  refine on2_ex (adm_barred (n := n) (by omega) k7.at2 hc h6 hcln.2 hp sq tr) fun h15 kp2 => ?_
  have k15 := k7.more kp2
  obtain ⟨_, z2, z3, z4, z6⟩ := box k15
  by_cases hb : before p (sq, tr)
  rotate_left
  · -- an old one
    have hO1 : O = (7, bs, ws) := by rw [hO', if_pos hb]
    have hbb : barB bs cln (sq, tr) = bs := by unfold barB; rw [hp]; simp only; rw [if_neg hb]
    subst hO1
    rw [decide_eq_false hb]
    simp (disch := (first | omega | assumption | rfl | (simp only [hn_new, hn_put, skip_n]; omega))) only [go_sem, z2, z3, z4]
    refine on2_ex (adm_bar (n := n) (by omega) k15.at2 hc h6 hcln.2 (x := sq) (y := tr) (by omega) (by omega)) fun h21 k21 => ?_
    rw [hbb] at k21
    simp (disch := (first | omega | assumption | rfl | (simp only [hn_new, hn_put, skip_n]; omega))) only [go_sem]
    exact k21.at2.drop
  rw [decide_eq_true hb]
  rw [if_neg (fun e => e hb)] at hO'
  by_cases hws : w = sq
  · rw [if_pos hws] at hO'
    subst hO'
    simp (disch := (first | omega | assumption | rfl | (simp only [hn_new, hn_put, skip_n]; omega))) only [go_sem, z3, hws]
    exact k15.drop
  rw [if_neg hws] at hO'
  by_cases hw0 : w = 0
  rotate_left
  · rw [if_pos hw0] at hO'
    subst hO'
    simp (disch := (first | omega | assumption | rfl | (simp only [hn_new, hn_put, skip_n]; omega))) only [go_sem, z2, z3, z4, hws]
    refine on2_ex (adm_bar (n := n) (by omega) k15.at2 hc h6 hcln.2 (x := sq) (y := tr) (by omega) (by omega)) fun h21 k21 => ?_
    simp (disch := (first | omega | assumption | rfl | (simp only [hn_new, hn_put, skip_n]; omega))) only [go_sem]
    exact k21.at2.drop
  rw [if_neg (fun e => e hw0)] at hO'
  by_cases hdn : dl < now
  · rw [if_pos hdn] at hO'
    subst hO'
    simp (disch := (first | omega | assumption | rfl | (simp only [hn_new, hn_put, skip_n]; omega))) only [go_sem, z2, z3, z4, z6, hws]
    refine on2_ex (adm_bar (n := n) (by omega) k15.at2 hc h6 hcln.2 (x := sq) (y := tr) (by omega) (by omega)) fun h21 k21 => ?_
    simp (disch := (first | omega | assumption | rfl | (simp only [hn_new, hn_put, skip_n]; omega))) only [go_sem]
    exact k21.at2.drop
  rw [if_neg hdn] at hO'
  have k56 := k15.more ((Keep.refl _ _).skip 8)
  obtain ⟨x0, _⟩ := box k56
  have xs : cellG 0 ((h15.skip 8).get a) = some (.ptr s 0) := by rw [k56.at2.get, cellG_one _ _ _ _ _ _ (by omega) (by omega)]; rfl
  rw [skip_get] at x0 xs
  simp (disch := (first | omega | assumption | rfl | (simp only [hn_new, hn_put, skip_n]; omega))) only [go_sem, z2, z3, z4, z6, hws, x0, xs]
  refine on2_ex (s_push (n := n) (by omega) (sl_in2 k56) hci f hf.c5 hf.op) fun h60 k60 => ?_
  by_cases hfull : c.qs.length < N
  · rw [if_neg (by simpa using hfull)] at hO'
    subst hO'
    simp only [if_pos hfull] at k60 ⊢
    have k69 := (sl_out2 k60).more ((Keep.refl _ _).skip 9)
    obtain ⟨_, u2, u3, _, _⟩ := box k69
    obtain ⟨h85, v1, v2⟩ := ad_wset k69.at2 h6 w6 hcln.1 sq
    rw [skip_get] at u2 u3 v1
    simp (disch := (first | omega | assumption | rfl | (simp only [hn_new, hn_put, skip_n]; omega))) only [go_sem, u2, u3, arc, v1]
    exact v2.at2.drop
  · rw [if_pos (by simpa using hfull)] at hO'
    subst hO'
    simp only [if_neg hfull] at k60 ⊢
    have k60' := sl_out2 k60
    obtain ⟨_, u2, u3, u4, _⟩ := box k60'
    have c60 : ¬ (60 : Int) = 0 := by omega
    simp (disch := (first | omega | assumption | rfl | (simp only [hn_new, hn_put, skip_n]; omega))) only [go_sem, u2, u3, u4, c60]
    refine on2_ex (adm_bar (n := n) (by omega) k60'.at2 hc h6 hcln.2 (x := sq) (y := tr) (by omega) (by omega)) fun h66 k66 => ?_
    simp (disch := (first | omega | assumption | rfl | (simp only [hn_new, hn_put, skip_n]; omega))) only [go_sem]
    exact k66.at2.drop
end
end Go.Proofs.Ytdncenepmkbolaa
