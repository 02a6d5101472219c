/-
  'AdmitSticks': the law's run, whatever is handed in.
-/
import Derived.Test.YtdncenepmkbolaaAdmitM
namespace Go.Proofs.Ytdncenepmkbolaa
open Go Go.Abs Go.Abs.S Go.Abs.W
set_option maxRecDepth 10000
set_option maxHeartbeats 8000000
theorem pars11 : Try.f11.params.toList = [92, 93] := by kernel_rfl
def cU (r : List AV) (j : Nat) : Int := match r[j]? with
  | some (.int .u8 x) => x
  | _ => 0
def kOf (cl : Int) (r : List AV) : Nat := ((cU r 0).tmod cl).toNat
def sOf (r : List AV) : Int := 1 + (cU r 1).tmod 4
def tOf (r : List AV) : Int := 1 + (cU r 2).tmod 3
/-- what holds from act to act -/
structure SSt (N : Nat) (cl : Int) (m : Nat) (cls : List Cl) (t : Nat) (st : Bool) (bs : List (Int × Int)) (ws : List Int) : Prop where
  ok : ScOk N cls t st
  ca : CaAll cl cls
  len : cls.length = m
  h6 : bs.length = 6
  w6 : ws.length = 6
  wok : WOk cls ws
  dl : DlOk cls
/-- what was refused is barred -/
structure RefOk (xs : List (List AV)) (cl : Int) (fs : List Bool) (bs : List (Int × Int)) : Prop where
  len : fs.length = xs.length
  bar : ∀ (i : Nat) (r : List AV) (p : Int × Int), xs[i]? = some r → fs[i]? = some true → bs[kOf cl r]? = some p → ¬ before p (sOf r, tOf r)
structure Kp (bs bs' : List (Int × Int)) : Prop where
  len : bs'.length = bs.length
  keep : ∀ (c' : Nat) (x p' r : Int × Int), bs[c']? = some p' → ¬ before p' x → bs'[c']? = some r → ¬ before r x
theorem RefOk.keep {xs : List (List AV)} {cl : Int} {fs : List Bool} {bs bs' : List (Int × Int)} (k : RefOk xs cl fs bs) (h : Kp bs bs') : RefOk xs cl fs bs' :=
  ⟨k.len, fun i r p h1 h2 h3 => by
    have hl := (List.getElem?_eq_some_iff.1 h3).1
    obtain ⟨p', hp'⟩ : ∃ p', bs[kOf cl r]? = some p' := ⟨bs[kOf cl r]'(by rw [← h.len]; exact hl), List.getElem?_eq_getElem _⟩
    exact h.keep _ _ _ _ hp' (k.bar i r p' h1 h2 hp') h3⟩
theorem RefOk.set {xs : List (List AV)} {cl : Int} {fs : List Bool} {bs : List (Int × Int)} {i : Nat} {r : List AV} (k : RefOk xs cl fs bs) (hr : xs[i]? = some r) (hb : ∀ p, bs[kOf cl r]? = some p → ¬ before p (sOf r, tOf r)) : RefOk xs cl (fs.set i true) bs :=
  ⟨by rw [List.length_set]; exact k.len, fun j r' p h1 h2 h3 => by
    by_cases hj : j = i
    · subst hj
      rw [hr] at h1; cases h1
      exact hb p h3
    · rw [List.getElem?_set_ne (Ne.symm hj)] at h2
      exact k.bar j r' p h1 h2 h3⟩
theorem kp_out (bs : List (Int × Int)) (A : List AF) : Kp bs (outB bs A) := ⟨outB_len A bs, fun _ _ _ _ h1 h2 h3 => outB_barred A h1 h3 h2⟩
theorem offR_old {bs : List (Int × Int)} {ws : List Int} {c : Nat} {p : Int × Int} {w : Int} (full : Bool) (s t d now : Int) (hp : bs[c]? = some p) (hw : ws[c]? = some w) (hb : ¬ before p (s, t)) : offR bs ws full c s t d now = (7, bs, ws) := by
  unfold offR
  rw [hp, hw]
  simp only
  rw [if_pos hb]
/-- what Next comes to -/
theorem next_two {h0 h' : Go.Abs.H} {a s N m : Nat} {cl q now : Int} {bs : List (Int × Int)} {ws : List Int} {v r : AV} {L : List Ch} {cls : List Cl} {t : Nat} {st : Bool} (p : SSt N cl m cls t st bs ws) (k : NextR h0 a s cl q bs ws v N L cls t st now r h') :
    ∃ (gs : List Fr) (vg : AV) (gc : List AV) (okb : Bool) (cls' : List Cl) (t' : Nat) (st' : Bool) (ws' : List Int), r = .tup [.agg gc, .bool okb, vg] ∧ gs.map af = expG now cls ∧ gc.length = 29 ∧
      SSt N cl m cls' t' st' (outB bs (gs.map af)) ws' ∧ Hs h0 (LsC 29 vg (gs.map Fr.cs) :: AdC a s cl q (outB bs (gs.map af)) ws' :: SL s v N cls' (t' : Int) st' L) h' := by
  obtain ⟨gs, vg, hgs, ⟨hr, hn, hk⟩ | ⟨g, j, cls', t', st', hr, hp, ok', hk⟩⟩ := k
  · exact ⟨gs, vg, zeroC, false, _, t, st, outW ws (gs.map af), hr, hgs, rfl, ⟨p.ok.exp now, p.ca.exp now, by rw [List.length_map]; exact p.len, by rw [outB_len]; exact p.h6, by rw [outW_len]; exact p.w6, by rw [hgs]; exact p.wok.exp now, p.dl.exp now⟩, hk⟩
  · obtain ⟨_, rest, e1, e2⟩ := pop_head hp
    have hlen : cls'.length = m := by have := congrArg List.length e2; simp at this; rw [this, p.len]
    exact ⟨gs, vg, g.cs, true, cls', t', st', (outW ws (gs.map af)).set (cI (af g).1 2).toNat 0, hr, hgs, g.len, ⟨ok', (p.ca.exp now).pop e1 e2, hlen, by rw [outB_len]; exact p.h6, by rw [List.length_set, outW_len]; exact p.w6, by rw [hgs]; exact (p.wok.exp now).pop e1 e2, (p.dl.exp now).pop e1 e2⟩, hk⟩
theorem law11 (h0 : Go.Abs.H) (l : List AV) (ho : HOk h0) (ha : Args h0 Try.prog Try.f11.params.toList l) : ∃ n h', callX env sums n 11 l h0 = some (.bool true, h') := by
  rw [pars11] at ha
  obtain ⟨v0, r0, rfl, a0, v1, r1, rfl, a1, rfl⟩ := ha
  obtain ⟨l0, rfl, hl0⟩ := arg_agg shape92 agg92 a0
  obtain ⟨c, vq, rfl, hvq⟩ := cfg_arg hl0
  obtain ⟨qx, hqs, hqrow, hqlen⟩ := sl_of_sh (by omega) hvq
  obtain ⟨qs, rfl⟩ := ints_rows hqrow
  have hqb := sl_blk ho hvq
  have hs1 := arg_one shape93 agg93 a1
  obtain ⟨xs, hsl, hrow, hlen⟩ := sl_of_sh (by omega) hs1
  have hblk := sl_blk ho hs1
  obtain ⟨N, hN⟩ : ∃ N, N = 3000 := ⟨_, rfl⟩
  suffices hh : W.Spec env sums (N + 1) 11 [.agg (c.cs vq), v1] h0 (fun r _ => r = .bool true) by
    obtain ⟨v, h', e, rfl⟩ := hh
    exact ⟨N + 1, h', e⟩
  generalize hX : Blk.rows 12 [c.cs vq] false none none = X
  have k1 := (Hs.start h0).new X
  refine spec_trN [.agg (c.cs vq), .v v1] rfl ft11 (by kernel_rfl) (tm11 ..) ?_
  rw [hX]
  refine ⟨rfl, ?_⟩
  rw [show ∀ K, (stdN env (callX env sums N) N).new h0 X K = K h0.n (h0.new X) from fun _ => rfl]
  generalize hHH : h0.new X = H1 at k1 ⊢
  generalize hb0 : h0.n = b0 at k1 ⊢
  have g3 : cellG 3 (H1.get b0) = some vq := by rw [k1.get, ← hX, cellG_one _ _ _ _ _ _ (by omega) (by omega)]; rfl
  have l0 : loadG 0 12 (H1.get b0) = some (c.cs vq) := by rw [k1.get, ← hX, loadG_zero _ _ _ _ _ (by omega)]; rfl
  have hql : lenS vq = some qs.length := by have := hqs.len; rwa [qrows_len] at this
  by_cases h20 : (20 : Int) < qs.length
  · simp (disch := (first | omega | assumption | rfl | (simp only [hn_new, hn_put, skip_n]; omega))) only [go_sem, g3, hql, offered_ok (n := N) (by omega)]
  by_cases h60 : (60 : Int) < xs.length
  · simp (disch := (first | omega | assumption | rfl | (simp only [hn_new, hn_put, skip_n]; omega))) only [go_sem, g3, hql, hsl.len, offered_ok (n := N) (by omega)]
  simp (disch := (first | omega | assumption | rfl | (simp only [hn_new, hn_put, skip_n]; omega))) only [go_sem, g3, hql, hsl.len, l0]
  refine on2_exb (g := fun v' => .agg (c.fit.cs v')) (ref_fit (by omega) c (hqs.keep fun b hb => k1.ext.2 b (hqb b hb)) (fun b hb => Nat.lt_of_lt_of_le (hqb b hb) k1.ext.1)) fun v' h13 kf => ?_
  have k13 := hs_onto k1 kf
  obtain ⟨d, hd⟩ : ∃ d, c.fit = d := ⟨_, rfl⟩
  have hdd : d = d.fit := by rw [← hd]; exact fit_fit c
  rw [hd]
  have s0 : storeB h13 b0 0 (d.cs v') (h13.get b0) = some (h13.put b0 (.rows 12 [d.cs v'] false none none)) := by
    rw [show h13.get b0 = some X from k13.at2.get, ← hX, storeB_rows, storeG_one _ _ _ _ (by omega), atN_zero, over_full (by rfl)]
  have k15 : Hs h0 (LsC 1 v' (qrows (fitQ qs)) :: [Cell b0 (.rows 12 [d.cs v'] false none none)]) _ := (k13.at2.put (.rows 12 [d.cs v'] false none none)).at2
  generalize hh15 : h13.put b0 (.rows 12 [d.cs v'] false none none) = h15 at s0 k15
  have l15 : loadG 0 12 (h15.get b0) = some (d.cs v') := by rw [k15.at2.get, loadG_zero _ _ _ _ _ (by omega)]; rfl
  simp (disch := (first | omega | assumption | rfl | (simp only [hn_new, hn_put, skip_n]; omega))) only [go_sem, show (d.cs v').length = 12 from rfl, s0, l15]
  have hfo := fitQ_ok qs
  refine on2_exb (g := fun a : Nat => .tup [.ptr a 0, .int .i64 0]) (adm_new (n := N) (by omega) d k15 hfo.1 hfo.2 hdd) fun a h18 ⟨s, vs, cls, hf, k18⟩ => ?_
  have hcl : 1 ≤ d.cli ∧ d.cli ≤ 6 := by rw [hdd]; simp only [C11.fit]; omega
  obtain ⟨q, hq⟩ : ∃ q : Int, ((fitQ qs).length : Int) = q := ⟨_, rfl⟩
  rw [hq] at k18
  obtain ⟨M, hM⟩ : ∃ M, d.queue.toNat = M := ⟨_, rfl⟩
  have hM16 : M ≤ 16 := by rw [← hM, hdd]; simp only [C11.fit]; omega
  rw [hM] at k18
  obtain ⟨m, hm⟩ : ∃ m, (fitQ qs).length = m := ⟨_, rfl⟩
  have hmq : q = (m : Int) := by rw [← hq, hm]
  have hm4 : 1 ≤ m ∧ m ≤ 4 := by rw [← hm]; exact hfo.1
  have hcl0 : cls.length = m := by have := congrArg List.length hf.1; rw [← hm, ← this]; simp
  have hqe : ∀ c ∈ cls, c.qs = [] := fun c hc => (hf.2 c hc).2.2
  have p0 : SSt M d.cli m cls 0 false (List.replicate 6 (0, 0)) (List.replicate 6 0) := by
    have hW : Wt cls = [] := by
      unfold Wt
      rw [List.flatten_eq_nil_iff]
      intro q hq
      rw [List.mem_map] at hq
      obtain ⟨c, hc, rfl⟩ := hq
      exact hqe c hc
    refine ⟨ScOk.fresh hf hfo.1 hfo.2, (fun i c hc a ha => by rw [hqe c (List.mem_of_getElem? hc)] at ha; cases ha), hcl0, by simp, by simp, ⟨by rw [hW]; exact List.nodup_nil, fun c w hw => ?_⟩, fun a ha => by rw [hW] at ha; cases ha⟩
    rw [hW]
    have : w ∈ List.replicate 6 (0 : Int) := List.mem_of_getElem? hw
    rw [List.mem_replicate] at this
    simp [this.2]
  generalize hLQ : LsC 1 v' (qrows (fitQ qs)) = LQ at k18
  have k18 : Hs h0 (AdC a s d.cli q (List.replicate 6 (0, 0)) (List.replicate 6 0) :: SL s vs M cls 0 false (Cell b0 (.rows 12 [d.cs v'] false none none) :: [LQ])) h18 := ain2 ((aout2 k18).at2)
  have hvl : ∀ (H : Go.Abs.H) (X : List Ch), Hs h0 (LQ :: X) H → lenS v' = some m := fun H X k => by rw [← hLQ] at k; have := k.sl.len; rwa [qrows_len, hm] at this
  have hvl' : lenS v' = some m := hvl _ _ (aout2 k18).at2
  clear hvl
  have hmk : mkS 1 (xs.length : Int) (xs.length : Int) = some (xs.length, xs.length) := by simp only [mkS, natOf_ofNat, ble_t (Nat.le_refl xs.length), ble_t (show xs.length * 1 ≤ 1099511627776 by omega), ble_t (show xs.length ≤ 1099511627776 by omega)]
  have hrep : List.replicate xs.length [AV.bool false] = (List.replicate xs.length false).map fun f => [AV.bool f] := by simp
  have k26 := k18.new (.rows 1 ((List.replicate xs.length false).map fun f => [AV.bool f]) false none none)
  have hslh18 := hsl.len
  simp (disch := (first | omega | assumption | rfl | (simp only [hn_new, hn_put, skip_n]; omega))) only [go_sem, hslh18, hmk]
  rw [hrep]
  generalize h18.n = fb at k26 ⊢
  have k26 := ain1 k26
  have rf0 : RefOk xs d.cli (List.replicate xs.length false) (List.replicate 6 (0, 0)) := ⟨by simp, fun i r p h1 h2 => by
    have : true ∈ List.replicate xs.length false := List.mem_of_getElem? h2
    rw [List.mem_replicate] at this
    cases this.2⟩
  refine ⟨fun l μ h => ∃ (u : Nat) (cls : List Cl) (t : Nat) (st : Bool) (bs : List (Int × Int)) (ws : List Int) (fs : List Bool), l = [.int .i64 u] ∧ μ = 2 - u ∧ u ≤ 2 ∧ SSt M d.cli m cls t st bs ws ∧ RefOk xs d.cli fs bs ∧ Hs h0 (AdC a s d.cli q bs ws :: SL s vs M cls (t : Int) st (FgC fb fs :: Cell b0 (.rows 12 [d.cs v'] false none none) :: [LQ])) h, ⟨2, by omega, 0, cls, 0, false, _, _, _, rfl, rfl, by omega, p0, rf0, k26⟩, ?_⟩
  clear rf0 k26 k18 p0 hcl0 hqe hf l15 s0 k15 k13 kf l0 g3
  intro n29 μ30 h31 ⟨u, cls, t, st, bs, ws, fs, e, hμ, hu, ps, rf, k31⟩
  cases e; subst hμ
  by_cases hu2 : (u : Int) < 2
  rotate_left
  · -- the end
    simp (disch := (first | omega | assumption | rfl | (simp only [hn_new, hn_put, skip_n]; omega))) only [go_sem]
    refine on2_ex2 (adm_flush (n := N) (by omega) k31 ps.ok hM16 hcl ps.h6 ps.w6 ps.ca) fun vg h265 ⟨gs, hgs, k265⟩ => ?_
    have hA : gs.length = (expG 1099511627777 cls).length := by rw [← hgs, List.length_map]
    have hgl : gs.length ≤ 64 := by rw [hA]; exact expG_len ps.ok hM16
    have hlb : lenS vg = some gs.length := by have := k265.sl.len; simpa using this
    have hb6 : (outB bs (gs.map af)).length = 6 := by rw [outB_len, ps.h6]
    have hw6 : (outW ws (gs.map af)).length = 6 := by rw [outW_len, ps.w6]
    have hcx : (cls.map (expC 1099511627777)).length = m := by rw [List.length_map, ps.len]
    have hempty : ∀ c ∈ cls.map (expC 1099511627777), c.qs = [] := fun c hc => by
      rw [List.mem_map] at hc
      obtain ⟨c0, hc0, rfl⟩ := hc
      show c0.qs.filter _ = []
      rw [List.filter_eq_nil_iff]
      intro x hx
      have := ps.dl x (by unfold Wt; rw [List.mem_flatten]; exact ⟨_, List.mem_map_of_mem hc0, hx⟩)
      unfold late
      rw [decide_eq_true (by omega)]
      simp
    refine ⟨fun l μ h => ∃ j : Nat, l = [.int .i64 j] ∧ μ = gs.length - j ∧ j ≤ gs.length ∧ Hs h0 (LsC 29 vg (gs.map Fr.cs) :: AdC a s d.cli q (outB bs (gs.map af)) (outW ws (gs.map af)) :: SL s vs M (cls.map (expC 1099511627777)) (t : Int) st (FgC fb fs :: Cell b0 (.rows 12 [d.cs v'] false none none) :: [LQ])) h, ⟨gs.length, by omega, 0, rfl, by omega, by omega, k265⟩, ?_⟩
    clear k265
    intro n268 μ269 h270 ⟨j, e, hμ, hj, k270⟩
    cases e; subst hμ
    by_cases hjl : (j : Int) < gs.length
    rotate_left
    · obtain ⟨c9, hc9⟩ : ∃ c9, (cls.map (expC 1099511627777))[0]? = some c9 := ⟨_, List.getElem?_eq_getElem (by rw [hcx]; omega)⟩
      have hl9 := adm_len (n := N) (i := 0) (by omega) k270.drop hc9
      rw [hempty c9 (List.mem_of_getElem? hc9)] at hl9
      have hl9 : callX env sums N 58 [.ptr a 0, .int .i64 0] h270 = some (.int .i64 0, h270) := hl9
      simp (disch := (first | omega | assumption | rfl | (simp only [hn_new, hn_put, skip_n]; omega))) only [go_sem, hlb, hl9, offered_ok (n := N) (by omega)]
    obtain ⟨g, hg⟩ : ∃ g, gs[j]? = some g := ⟨gs[j], List.getElem?_eq_getElem (by omega)⟩
    have hgA : (gs.map af)[j]? = some (af g) := by rw [List.getElem?_map, hg]; rfl
    have hgm : af g ∈ expG 1099511627777 cls := by rw [← hgs]; exact List.mem_of_getElem? hgA
    obtain ⟨mm, c5, hc5, hcm, hlate⟩ := gone_mem hgm
    have hgo := ps.ca mm c5 hc5 _ hcm
    have hdl := ps.dl (af g) (by unfold Wt; rw [List.mem_flatten]; exact ⟨_, List.mem_of_getElem? (QS_get hc5), hcm⟩)
    obtain ⟨cn, hcn⟩ : ∃ cn : Nat, cI (af g).1 2 = cn := ⟨(cI (af g).1 2).toNat, by have := hgo.r2; omega⟩
    have hcl2 := hgo.r2
    rw [hcn] at hcl2
    obtain ⟨pg, hpg⟩ : ∃ p, (outB bs (gs.map af))[cn]? = some p := ⟨_, List.getElem?_eq_getElem (by rw [hb6]; omega)⟩
    obtain ⟨wg, hwg⟩ : ∃ w, (outW ws (gs.map af))[cn]? = some w := ⟨_, List.getElem?_eq_getElem (by rw [hw6]; omega)⟩
    have hbar : ¬ before pg (cI (af g).1 3, cI (af g).1 4) :=
      outB_gone (A := gs.map af) (bs := bs) (a := af g) (r := pg) (List.mem_of_getElem? hgA) (by rw [hcn, ps.h6]; omega) (by rw [hcn]; exact hpg)
    have hml : mm < m := by have := (List.getElem?_eq_some_iff.1 hc5).1; rw [ps.len] at this; exact this
    obtain ⟨c9, hc9⟩ : ∃ c9, (cls.map (expC 1099511627777))[mm]? = some c9 := ⟨_, List.getElem?_eq_getElem (by rw [hcx]; exact hml)⟩
    obtain ⟨bx, ox, y1, y2, _, _⟩ := k270.sl.idx (i := j) (r := g.cs) (by rw [List.getElem?_map, hg]; rfl)
    simp (disch := (first | omega | assumption | rfl | (simp only [hn_new, hn_put, skip_n]; omega))) only [go_sem, hlb, y1, y2]
    refine on2_ex (adm_offer (n := N) (now := 0) (cln := cn) (by omega) (ain1 k270) hcl (by omega) (by rw [hcx, hmq]) hb6 hw6 g hgo hc9 hcn (by omega)) fun h276 k276 => ?_
    rw [offR_old _ _ _ _ _ hpg hwg hbar] at k276 ⊢
    simp (disch := (first | omega | assumption | rfl | (simp only [hn_new, hn_put, skip_n]; omega))) only [go_sem]
    exact ⟨gs.length - (j + 1), by omega, j + 1, by simp, rfl, by omega, aout1 k276⟩
  simp (disch := (first | omega | assumption | rfl | (simp only [hn_new, hn_put, skip_n]; omega))) only [go_sem]
  refine ⟨fun l μ h => ∃ (i : Nat) (cls : List Cl) (t : Nat) (st : Bool) (bs : List (Int × Int)) (ws : List Int) (fs : List Bool), l = [.int .i64 i] ∧ μ = xs.length - i ∧ i ≤ xs.length ∧ SSt M d.cli m cls t st bs ws ∧ RefOk xs d.cli fs bs ∧ Hs h0 (AdC a s d.cli q bs ws :: SL s vs M cls (t : Int) st (FgC fb fs :: Cell b0 (.rows 12 [d.cs v'] false none none) :: [LQ])) h, ⟨xs.length, by omega, 0, cls, t, st, bs, ws, fs, rfl, by omega, by omega, ps, rf, k31⟩, ?_⟩
  clear k31 ps rf
  intro n34 μ35 h36 ⟨i, cls, t, st, bs, ws, fs, e, hμ, hi, ps, rfo, k36⟩
  cases e; subst hμ
  have hslh : SlR h36 7 v1 xs := hsl.keep fun b hb => k36.ext.2 b (hblk b hb)
  by_cases hlt : (i : Int) < xs.length
  rotate_left
  · simp (disch := (first | omega | assumption | rfl | (simp only [hn_new, hn_put, skip_n]; omega))) only [go_sem, hslh.len]
    exact ⟨2 - (u + 1), by omega, u + 1, cls, t, st, bs, ws, fs, by simp, rfl, by omega, ps, rfo, k36⟩
  obtain ⟨r, hr⟩ : ∃ r, xs[i]? = some r := ⟨xs[i], List.getElem?_eq_getElem (by omega)⟩
  obtain ⟨ra, rb, rc, rd, re, rf, rg, hrr, u1, u2, u3, u4, u5, u6⟩ := try_row (hrow r (List.mem_of_getElem? hr))
  obtain ⟨b, o, p1, p2, _, _⟩ := hslh.idx hr
  have q0 : cU r 0 = ra := by rw [hrr]; rfl
  have q1 : cU r 1 = rb := by rw [hrr]; rfl
  have q2 : cU r 2 = rc := by rw [hrr]; rfl
  obtain ⟨k, hk⟩ : ∃ k : Nat, ra.tmod d.cli = k := ⟨(ra.tmod d.cli).toNat, by rw [Int.tmod_eq_emod_of_nonneg u1.1]; have := Int.emod_nonneg ra (show d.cli ≠ 0 by omega); omega⟩
  have hkc : (k : Int) < d.cli := by rw [← hk, Int.tmod_eq_emod_of_nonneg u1.1]; exact Int.emod_lt_of_pos _ (by omega)
  have hkof : kOf d.cli r = k := by unfold kOf; rw [q0, hk]; rfl
  obtain ⟨sq, hsq⟩ : ∃ sq : Int, 1 + rb.tmod 4 = sq := ⟨_, rfl⟩
  obtain ⟨tr, htr⟩ : ∃ tr : Int, 1 + rc.tmod 3 = tr := ⟨_, rfl⟩
  have hsof : sOf r = sq := by unfold sOf; rw [q1, hsq]
  have htof : tOf r = tr := by unfold tOf; rw [q2, htr]
  have hsq1 : 1 ≤ sq ∧ sq ≤ 4 := by rw [Int.tmod_eq_emod_of_nonneg u2.1] at hsq; omega
  have htr1 : 1 ≤ tr ∧ tr ≤ 3 := by rw [Int.tmod_eq_emod_of_nonneg u3.1] at htr; omega
  obtain ⟨kc, hkk⟩ : ∃ kc : Nat, rd.tmod (m : Int) = kc := ⟨(rd.tmod (m : Int)).toNat, by rw [Int.tmod_eq_emod_of_nonneg u4.1]; have := Int.emod_nonneg rd (show (m : Int) ≠ 0 by omega); omega⟩
  have hkm : kc < m := by have : (kc : Int) < m := by rw [← hkk, Int.tmod_eq_emod_of_nonneg u4.1]; exact Int.emod_lt_of_pos _ (by omega)
                          omega
  have c3 : ¬ (3 : Int) = 0 := by omega
  have c4 : ¬ (4 : Int) = 0 := by omega
  have ccl : ¬ d.cli = 0 := by omega
  have cm : ¬ (m : Int) = 0 := by omega
  have ka := aout2 k36
  have hb0 := ka.at2.lt
  have hfb := ka.lt
  have gcl : cellG 2 (h36.get b0) = some (.int .i64 d.cli) := by rw [ka.at2.get, cellG_one _ _ _ _ _ _ (by omega) (by omega)]; rfl
  have r0 : nth r 0 = some (.int .u8 ra) := by rw [hrr]; rfl
  have r1 : nth r 1 = some (.int .u8 rb) := by rw [hrr]; rfl
  have r2 : nth r 2 = some (.int .u8 rc) := by rw [hrr]; rfl
  have r3 : nth r 3 = some (.int .u8 rd) := by rw [hrr]; rfl
  have r4 : nth r 4 = some (.int .u8 re) := by rw [hrr]; rfl
  have r5 : nth r 5 = some (.int .u8 rf) := by rw [hrr]; rfl
  have r6 : nth r 6 = some (.bool rg) := by rw [hrr]; rfl
  have hrl : r.length = 7 := by rw [hrr]; rfl
  have ov7 : over r [.int .u8 0, .int .u8 0, .int .u8 0, .int .u8 0, .int .u8 0, .int .u8 0, .bool false] = some r := over_full (by rw [hrl]; rfl)
  have k43 := (k36.new (.rows 7 [[.int .u8 0, .int .u8 0, .int .u8 0, .int .u8 0, .int .u8 0, .int .u8 0, .bool false]] false none none)).put (.rows 7 [r] false none none)
  have k45 := k43.skip (n := 22) (i := 20) (by omega)
  simp (disch := (first | omega | assumption | rfl | (simp only [hn_new, hn_put, skip_n]; omega))) only [go_sem, hslh.len, p1, p2, hrl, ov7, r0, r1, r2, r4, c3, c4, ccl, gcl, hk, hsq, htr]
  refine on2_ex (call_ok (n := N) (by omega) k sq tr re _) fun h52 kp => ?_
  have k52 : Hs h0 (Free (h36.n + 1 + 20) :: Cell h36.n (.rows 7 [r] false none none) :: AdC a s d.cli q bs ws :: SL s vs M cls (t : Int) st (FgC fb fs :: Cell b0 (.rows 12 [d.cs v'] false none none) :: [LQ])) h52 := k45.more kp
  generalize hbf : h36.n + 1 + 20 = bf at k52 ⊢
  generalize hb33 : h36.n = b33 at k52 ⊢
  rw [hb33] at hbf hb0 hfb
  have hne1 : b33 ≠ bf := by omega
  have hne2 : b0 ≠ bf := by omega
  obtain ⟨f0, hf0⟩ : ∃ f0, cal k sq tr 0 re = f0 := ⟨_, rfl⟩
  obtain ⟨f1, hf1⟩ : ∃ f1, cal k sq tr kc re = f1 := ⟨_, rfl⟩
  rw [hf0]
  have ovf : over f0.cs zeroC = some f0.cs := over_full f0.len
  have hst : ∀ (h : Go.Abs.H) (b : Nat), storeB h b 5 [.int .i64 kc] (some (.rows 29 [f0.cs] false none none)) = some (h.put b (.rows 29 [f1.cs] false none none)) := by
    intro h b
    have := st_one (b := b) (i := 5) (x := .int .i64 kc) h (r := f0.cs) (by rw [Fr.len]; omega)
    rw [Fr.len] at this
    rw [this, ← hf0, ← hf1]; rfl
  have g33 := k52.at2.get
  have gb0 : cellG 3 (h52.get b0) = some v' := by rw [(aout2 k52.drop.drop).at2.get, cellG_one _ _ _ _ _ _ (by omega) (by omega)]; rfl
  have k59 := ((k52.fput (.rows 29 [zeroC] false none none)).put (.rows 29 [f0.cs] false none none)).put (.rows 29 [f1.cs] false none none)
  have hca : CaOk d.cli kc (af f1) := by
    rw [← hf1]
    exact ⟨⟨re, rfl⟩, ⟨by show (0 : Int) ≤ k; omega, hkc⟩, ⟨by show (1 : Int) ≤ sq; omega, by show sq ≤ _; omega⟩, ⟨by show (1 : Int) ≤ tr; omega, by show tr ≤ _; omega⟩⟩
  have x2 : cI (af f1).1 2 = k := by rw [← hf1]; rfl
  have x3 : cI (af f1).1 3 = sq := by rw [← hf1]; rfl
  have x4 : cI (af f1).1 4 = tr := by rw [← hf1]; rfl
  have x6 : cI (af f1).1 6 = re := by rw [← hf1]; rfl
  obtain ⟨cc, hcc⟩ : ∃ cc, cls[kc]? = some cc := ⟨cls[kc]'(by rw [ps.len]; exact hkm), List.getElem?_eq_getElem _⟩
  have hl1 : loadG 0 29 (some (.rows 29 [f1.cs] false none none)) = some f1.cs := by rw [loadG_zero _ _ _ _ _ (by omega)]; rfl
  simp (disch := (first | omega | assumption | rfl | (simp only [hn_new, hn_put, skip_n]; omega))) only [go_sem, f0.len, ovf, g33, r3, r5, gb0, hvl', cm, hkk, hst, hl1]
  refine on2_ex (adm_offer (n := N) (cln := k) (by omega) (ain2 k59) hcl (by omega) (by rw [ps.len, hmq]) ps.h6 ps.w6 f1 hca hcc x2 (by omega)) fun h63 k63 => ?_
  obtain ⟨p, hp⟩ : ∃ p, bs[k]? = some p := ⟨bs[k]'(by rw [ps.h6]; omega), List.getElem?_eq_getElem _⟩
  obtain ⟨w, hw⟩ : ∃ w, ws[k]? = some w := ⟨ws[k]'(by rw [ps.w6]; omega), List.getElem?_eq_getElem _⟩
  obtain ⟨hRb, hRw⟩ := offR_len (bs := bs) (ws := ws) (decide (M ≤ cc.qs.length)) k (cI (af f1).1 3) (cI (af f1).1 4) (cI (af f1).1 6) rf
  have hRz := offR_zero (bs := bs) (ws := ws) (full := decide (M ≤ cc.qs.length)) (c := k) (s := cI (af f1).1 3) (t := cI (af f1).1 4) (d := cI (af f1).1 6) (now := rf) (by rw [ps.h6]; omega) (by rw [ps.w6]; omega)
  have hRo := offR_ok (decide (M ≤ cc.qs.length)) (cI (af f1).1 3) (cI (af f1).1 4) (cI (af f1).1 6) rf hp hw
  generalize offR bs ws (decide (M ≤ cc.qs.length)) k (cI (af f1).1 3) (cI (af f1).1 4) (cI (af f1).1 6) rf = R at k63 hRb hRw hRz hRo ⊢
  rw [x3, x4] at hRo
  have kpR : Kp bs R.2.1 := ⟨hRb, hRo.keep⟩
  obtain ⟨cls1, hcls1⟩ : ∃ cls1, (if R.1 = 0 then cls.set kc { cc with qs := cc.qs ++ [af f1] } else cls) = cls1 := ⟨_, rfl⟩
  rw [hcls1] at k63
  have ps1 : SSt M d.cli m cls1 t st R.2.1 R.2.2 := by
    by_cases hz : R.1 = 0
    · rw [if_pos hz] at hcls1
      obtain ⟨y1, y2, y3, y4⟩ := hRo.yes hz
      have hfull : cc.qs.length < M := by have := hRz hz; simpa using this
      have hcli : cli (af f1) = k := by unfold cli; rw [x2]; rfl
      rw [← hcls1]
      refine ⟨ps.ok.push hcc hfull hca.op, ps.ca.push hcc hca, by rw [List.length_set]; exact ps.len, by rw [hRb, ps.h6], by rw [hRw, ps.w6], ?_, ps.dl.push hcc (by rw [x6]; omega)⟩
      rw [y2, ← hcli]
      exact ps.wok.push hcc (by rw [hcli, hw, y3]) (by omega)
    · rw [if_neg hz] at hcls1
      rw [← hcls1]
      exact ⟨ps.ok, ps.ca, ps.len, by rw [hRb, ps.h6], by rw [hRw, ps.w6], by rw [hRo.ws' hz]; exact ps.wok, ps.dl⟩
  have rf1 := rfo.keep kpR
  have kb := aout3 k63
  have hfi : (i : Nat) < fs.length := by rw [rfo.len]; omega
  have arc := arr6 (i := k) (by omega)
  have g63 : ∀ {H : Go.Abs.H}, H.get bf = some (.rows 29 [f1.cs] false none none) → cellG 2 (H.get bf) = some (.int .i64 k) ∧ cellG 3 (H.get bf) = some (.int .i64 sq) ∧ cellG 4 (H.get bf) = some (.int .i64 tr) := fun e => by
    rw [e]
    exact ⟨by rw [← x2]; exact fr_cell f1 (by omega) hca.c2, by rw [← x3]; exact fr_cell f1 (by omega) hca.c3, by rw [← x4]; exact fr_cell f1 (by omega) hca.c4⟩
  have hix : idxS 1 (.sl fb 0 xs.length xs.length) (i : Int) = some (fb, i * 1) := by rw [← rfo.len]; exact fg_idx hfi
  have hRbad := hRo.bad
  obtain ⟨fl, hfl⟩ : ∃ fl, fs[i]? = some fl := ⟨fs[i], List.getElem?_eq_getElem hfi⟩
  have hold : fl = true → R.1 = 7 := fun e => hRo.old (by
    have := rfo.bar i r p hr (by rw [hfl, e]) (by rw [hkof]; exact hp)
    rwa [hsof, htof] at this)
  have gfl := fg_get kb.at3 hfl
  -- what was refused is refused again
  simp (disch := (first | omega | assumption | rfl | (simp only [hn_new, hn_put, skip_n]; omega))) only [go_sem]
  refine ⟨fun l h => l = [] ∧ h63 = h, ?_, ?_⟩
  · cases fl with
    | true => simp (disch := (first | omega | assumption | rfl | (simp only [hn_new, hn_put, skip_n]; omega))) only [go_sem, hix, gfl, hold rfl]
    | false => simp (disch := (first | omega | assumption | rfl | (simp only [hn_new, hn_put, skip_n]; omega))) only [go_sem, hix, gfl, hRbad]
  intro h70 ⟨_, e⟩
  subst e
  -- who is refused is barred
  refine ⟨fun l h => l = [] ∧ ∃ fs : List Bool, RefOk xs d.cli fs R.2.1 ∧ Hs h0 (Cell bf (.rows 29 [f1.cs] false none none) :: Cell b33 (.rows 7 [r] false none none) :: FgC fb fs :: AdC a s d.cli q R.2.1 R.2.2 :: SL s vs M cls1 (t : Int) st (Cell b0 (.rows 12 [d.cs v'] false none none) :: [LQ])) h, ?_, ?_⟩
  · by_cases hz : R.1 = 0
    · simp (disch := (first | omega | assumption | rfl | (simp only [hn_new, hn_put, skip_n]; omega))) only [go_sem, hz]
      exact ⟨fs, rf1, kb⟩
    by_cases hz6 : R.1 = 6
    · simp (disch := (first | omega | assumption | rfl | (simp only [hn_new, hn_put, skip_n]; omega))) only [go_sem, hz6]
      exact ⟨fs, rf1, kb⟩
    obtain ⟨t1, t2⟩ := fg_set kb.at3 hfi true
    obtain ⟨pr, hpr⟩ : ∃ pr, R.2.1[k]? = some pr := ⟨R.2.1[k]'(by rw [hRb, ps.h6]; omega), List.getElem?_eq_getElem _⟩
    have hnb := hRo.bar hz hz6 pr hpr
    obtain ⟨y2, y3, y4⟩ := g63 kb.get
    simp (disch := (first | omega | assumption | rfl | (simp only [hn_new, hn_put, skip_n]; omega))) only [go_sem, hz, hz6, hix, t1, y2, y3, y4]
    refine on2_ex (adm_barred (n := N) (by omega) t2.at4 hcl (by rw [hRb, ps.h6]) hkc hpr sq tr) fun h79 kp2 => ?_
    have k79 := t2.more kp2
    rw [decide_eq_false hnb]
    simp (disch := (first | omega | assumption | rfl | (simp only [hn_new, hn_put, skip_n]; omega))) only [go_sem]
    exact ⟨fs.set i true, rf1.set hr (fun p' hp' => by rw [hkof] at hp'; rw [hpr] at hp'; cases hp'; rw [hsof, htof]; exact hnb), k79.to3⟩
  clear gfl kb rf1 rfo hold hfl hfi hix
  intro h82 ⟨_, fs, rf1, kb⟩
  -- who waits is known, and not barred
  refine ⟨fun l h => l = [] ∧ Hs h0 (Cell bf (.rows 29 [f1.cs] false none none) :: Cell b33 (.rows 7 [r] false none none) :: FgC fb fs :: AdC a s d.cli q R.2.1 R.2.2 :: SL s vs M cls1 (t : Int) st (Cell b0 (.rows 12 [d.cs v'] false none none) :: [LQ])) h, ?_, ?_⟩
  · by_cases hz : R.1 = 0
    rotate_left
    · simp (disch := (first | omega | assumption | rfl | (simp only [hn_new, hn_put, skip_n]; omega))) only [go_sem, hz]
      exact kb
    obtain ⟨z1, z2, z3, z4⟩ := hRo.yes hz
    have hwk : R.2.2[k]? = some sq := by rw [z2]; exact List.getElem?_set_self (by rw [ps.w6]; omega)
    obtain ⟨y2, y3, y4⟩ := g63 kb.get
    simp (disch := (first | omega | assumption | rfl | (simp only [hn_new, hn_put, skip_n]; omega))) only [go_sem, hz, y2]
    refine on2_ex (adm_waits (n := N) (by omega) kb.at4 hcl (by rw [hRb, ps.h6]) hkc hwk) fun h86 kp2 => ?_
    have k86 := kb.more kp2
    obtain ⟨y2', y3', y4'⟩ := g63 k86.get
    have hs0 : ¬ sq = 0 := by omega
    simp (disch := (first | omega | assumption | rfl | (simp only [hn_new, hn_put, skip_n]; omega))) only [go_sem, y2', y3', y4', hs0]
    refine on2_ex (adm_barred (n := N) (by omega) k86.at4 hcl (by rw [hRb, ps.h6]) hkc (p := p) (by rw [z1]; exact hp) sq tr) fun h93 kp3 => ?_
    rw [decide_eq_true z4]
    simp (disch := (first | omega | assumption | rfl | (simp only [hn_new, hn_put, skip_n]; omega))) only [go_sem]
    exact k86.more kp3
  intro h96 ⟨_, kb⟩
  -- what is gone has expired, and is barred
  refine ⟨fun l h => l = [] ∧ ∃ (cls : List Cl) (t : Nat) (st : Bool) (bs : List (Int × Int)) (ws : List Int) (fs : List Bool), SSt M d.cli m cls t st bs ws ∧ RefOk xs d.cli fs bs ∧ Hs h0 (AdC a s d.cli q bs ws :: SL s vs M cls (t : Int) st (FgC fb fs :: Cell b0 (.rows 12 [d.cs v'] false none none) :: [LQ])) h, ?_, ?_⟩
  · have gr6 : cellG 6 (h96.get b33) = some (.bool rg) := by rw [kb.at2.get, cellG_one _ _ _ _ _ _ (by omega) (by omega)]; exact r6
    have gr5 : cellG 5 (h96.get b33) = some (.int .u8 rf) := by rw [kb.at2.get, cellG_one _ _ _ _ _ _ (by omega) (by omega)]; exact r5
    by_cases hrg : rg = true
    rotate_left
    · have hrg : rg = false := by
        cases rg with
        | false => rfl
        | true => exact absurd rfl hrg
      subst hrg
      simp (disch := (first | omega | assumption | rfl | (simp only [hn_new, hn_put, skip_n]; omega))) only [go_sem, gr6]
      exact ⟨cls1, t, st, _, _, fs, ps1, rf1, ain1 kb.drop.drop⟩
    subst hrg
    simp (disch := (first | omega | assumption | rfl | (simp only [hn_new, hn_put, skip_n]; omega))) only [go_sem, gr6, gr5]
    refine on2_ex2 (adm_next (n := N) (now := rf) (by omega) (ain3 kb) ps1.ok hM16 hcl ps1.h6 ps1.w6 ps1.ca) fun rr h101 hnr => ?_
    obtain ⟨gs, vg, gc, okb, cls', t', st', ws', hrr', hgs, hgc, ps', k101⟩ := next_two ps1 hnr
    subst hrr'
    have hA : gs.length = (expG rf cls1).length := by rw [← hgs, List.length_map]
    have hgl : gs.length ≤ 64 := by rw [hA]; exact expG_len ps1.ok hM16
    have ovg : over gc zeroC = some gc := over_full (by rw [hgc]; rfl)
    have k109 := (k101.new (.rows 29 [zeroC] false none none)).put (.rows 29 [gc] false none none)
    simp (disch := (first | omega | assumption | rfl | (simp only [hn_new, hn_put, skip_n]; omega))) only [go_sem, hgc, ovg]
    generalize hh109 : (h101.new (.rows 29 [zeroC] false none none)).put h101.n (.rows 29 [gc] false none none) = h109 at k109 ⊢
    generalize h101.n = b107 at k109 ⊢
    have hlb : lenS vg = some gs.length := by have := k109.at2.sl.len; simpa using this
    have k109 : Hs h0 (LsC 29 vg (gs.map Fr.cs) :: AdC a s d.cli q (outB R.2.1 (gs.map af)) ws' :: SL s vs M cls' (t' : Int) st' (Cell bf (.rows 29 [f1.cs] false none none) :: Cell b33 (.rows 7 [r] false none none) :: FgC fb fs :: Cell b0 (.rows 12 [d.cs v'] false none none) :: [LQ])) h109 := k109.drop
    refine ⟨fun l μ h => ∃ j : Nat, l = [.int .i64 j] ∧ μ = gs.length - j ∧ j ≤ gs.length ∧ Hs h0 (LsC 29 vg (gs.map Fr.cs) :: AdC a s d.cli q (outB R.2.1 (gs.map af)) ws' :: SL s vs M cls' (t' : Int) st' (Cell bf (.rows 29 [f1.cs] false none none) :: Cell b33 (.rows 7 [r] false none none) :: FgC fb fs :: Cell b0 (.rows 12 [d.cs v'] false none none) :: [LQ])) h, ⟨gs.length, by omega, 0, rfl, by omega, by omega, k109⟩, ?_⟩
    clear k109
    intro n112 μ113 h114 ⟨j, e, hμ, hj, k114⟩
    cases e; subst hμ
    by_cases hjl : (j : Int) < gs.length
    rotate_left
    · simp (disch := (first | omega | assumption | rfl | (simp only [hn_new, hn_put, skip_n]; omega))) only [go_sem, hlb]
      have kx := (aout3 k114.drop).drop.drop
      exact ⟨cls', t', st', _, _, fs, ps', rf1.keep (kp_out _ _), ain1 kx⟩
    obtain ⟨g, hg⟩ : ∃ g, gs[j]? = some g := ⟨gs[j], List.getElem?_eq_getElem (by omega)⟩
    have hgA : (gs.map af)[j]? = some (af g) := by rw [List.getElem?_map, hg]; rfl
    have hgm : af g ∈ expG rf cls1 := by rw [← hgs]; exact List.mem_of_getElem? hgA
    obtain ⟨mm, c5, hc5, hcm, hlate⟩ := gone_mem hgm
    have hgo := ps1.ca mm c5 hc5 _ hcm
    obtain ⟨cn, hcn⟩ : ∃ cn : Nat, cI (af g).1 2 = cn := ⟨(cI (af g).1 2).toNat, by have := hgo.r2; omega⟩
    have hcl2 := hgo.r2
    rw [hcn] at hcl2
    obtain ⟨pg, hpg⟩ : ∃ p, (outB R.2.1 (gs.map af))[cn]? = some p := ⟨_, List.getElem?_eq_getElem (by rw [ps'.h6]; omega)⟩
    have hbar : ¬ before pg (cI (af g).1 3, cI (af g).1 4) :=
      outB_gone (A := gs.map af) (bs := R.2.1) (a := af g) (r := pg) (List.mem_of_getElem? hgA) (by rw [hcn, ps1.h6]; omega) (by rw [hcn]; exact hpg)
    have hnl : ¬ rf ≤ cI (af g).1 6 := fun h => by
      unfold late at hlate
      have := of_decide_eq_true hlate
      omega
    have k117 := k114.more ((Keep.refl _ _).skip 29)
    obtain ⟨bx, ox, y1, _, y3, _⟩ := k114.sl.idx (i := j) (r := g.cs) (by rw [List.getElem?_map, hg]; rfl)
    have cx : ∀ i x, i < 24 → nth (af g).1 i = some x → cellG (ox + i) (h114.get bx) = some x := fun i x hi hx => by
      have := y3 i (by omega)
      rw [cellQ_some _ _ _ (by omega), fr_nth g hi, hx] at this
      exact this
    have z2 : cellG (ox + 2) (h114.get bx) = some (.int .i64 cn) := by rw [← hcn]; exact cx 2 _ (by omega) hgo.c2
    have z3 := cx 3 _ (by omega) hgo.c3
    have z4 := cx 4 _ (by omega) hgo.c4
    have z6 := cx 6 _ (by omega) hgo.c6
    have gr5' : cellG 5 (h114.get b33) = some (.int .u8 rf) := by rw [(aout2 k114.drop).at2.get, cellG_one _ _ _ _ _ _ (by omega) (by omega)]; exact r5
    simp (disch := (first | omega | assumption | rfl | (simp only [hn_new, hn_put, skip_n]; omega))) only [go_sem, hlb, y1, z6, gr5', hnl, z2, z3, z4]
    refine on2_ex (adm_barred (n := N) (by omega) k117.at2 hcl ps'.h6 hcl2.2 hpg (cI (af g).1 3) (cI (af g).1 4)) fun h132 kp2 => ?_
    rw [decide_eq_false hbar]
    simp (disch := (first | omega | assumption | rfl | (simp only [hn_new, hn_put, skip_n]; omega))) only [go_sem]
    exact ⟨gs.length - (j + 1), by omega, j + 1, by simp, rfl, by omega, k117.more kp2⟩
  clear kb ps1 rf1 kpR hRz hRo hRb hRw hcls1 k63 k59 k52 k45 k43 k36 ps ka hslh
  intro h135 ⟨_, cls, t, st, bs, ws, fs, ps, rfo, k135⟩
  -- as many clients wait as calls
  obtain ⟨cn, hcn⟩ : ∃ cn : Nat, d.cli = cn := ⟨d.cli.toNat, by omega⟩
  have hwm : ∀ x ∈ Wt cls, cli x < cn := fun x hx => by
    obtain ⟨j, hj⟩ := wt_ca ps.ca hx
    have := hj.r2
    unfold cli
    omega
  have hcount := wok_count ps.wok (m := cn) (by rw [ps.w6]; omega) hwm
  have hall := nLen_all (cls := cls)
  rw [ps.len] at hall
  have hM2 : (M : Int) = d.queue := by rw [← hM]; have : 1 ≤ d.queue := by rw [hdd]; simp only [C11.fit]; omega
                                       omega
  refine ⟨fun l μ h => ∃ kk : Nat, l = [.int .i64 (nLen cls kk : Nat), .int .i64 kk] ∧ μ = m - kk ∧ kk ≤ m ∧ Hs h0 (AdC a s d.cli q bs ws :: SL s vs M cls (t : Int) st (FgC fb fs :: Cell b0 (.rows 12 [d.cs v'] false none none) :: [LQ])) h, ⟨m, by omega, 0, rfl, rfl, by omega, k135⟩, ?_⟩
  clear k135
  intro n138 n139 μ140 h141 ⟨kk, e, hμ, hkk', k141⟩
  cases e; subst hμ
  have gv : cellG 3 (h141.get b0) = some v' := by rw [(aout2 k141).at2.get, cellG_one _ _ _ _ _ _ (by omega) (by omega)]; rfl
  have gq : cellG 4 (h141.get b0) = some (.int .i64 d.queue) := by rw [(aout2 k141).at2.get, cellG_one _ _ _ _ _ _ (by omega) (by omega)]; rfl
  have hnl := nLen_le ps.ok hM16 kk
  by_cases hkm2 : (kk : Int) < m
  · obtain ⟨c8, hc8⟩ : ∃ c8, cls[kk]? = some c8 := ⟨cls[kk]'(by rw [ps.len]; omega), List.getElem?_eq_getElem _⟩
    have hcl8 := (ps.ok.ok c8 (List.mem_of_getElem? hc8)).len
    have k145 := k141.more ((Keep.refl _ _).skip 6)
    have hnq : ¬ d.queue < (c8.qs.length : Int) := by omega
    simp (disch := (first | omega | assumption | rfl | (simp only [hn_new, hn_put, skip_n]; omega))) only [go_sem, gv, hvl', adm_len (n := N) (by omega) k145 hc8, gq, hnq]
    refine ⟨m - (kk + 1), by omega, kk + 1, ?_, rfl, by omega, k145⟩
    rw [nLen_succ hc8]
    simp
  have hke : kk = m := by omega
  subst hke
  simp (disch := (first | omega | assumption | rfl | (simp only [hn_new, hn_put, skip_n]; omega))) only [go_sem, gv, hvl']
  refine ⟨fun l μ h => ∃ jj : Nat, l = [.int .i64 (nWait ws jj : Nat), .int .i64 jj] ∧ μ = cn - jj ∧ jj ≤ cn ∧ Hs h0 (AdC a s d.cli q bs ws :: SL s vs M cls (t : Int) st (FgC fb fs :: Cell b0 (.rows 12 [d.cs v'] false none none) :: [LQ])) h, ⟨cn, by omega, 0, rfl, rfl, by omega, k141⟩, ?_⟩
  clear k141
  intro n155 n156 μ157 h158 ⟨jj, e, hμ, hjj, k158⟩
  cases e; subst hμ
  have gcl2 : cellG 2 (h158.get b0) = some (.int .i64 d.cli) := by rw [(aout2 k158).at2.get, cellG_one _ _ _ _ _ _ (by omega) (by omega)]; rfl
  have hnw := nWait_le ws jj
  by_cases hjc : (jj : Int) < d.cli
  · obtain ⟨w8, hw8⟩ : ∃ w8, ws[jj]? = some w8 := ⟨ws[jj]'(by rw [ps.w6]; omega), List.getElem?_eq_getElem _⟩
    have hns := nWait_succ hw8
    simp (disch := (first | omega | assumption | rfl | (simp only [hn_new, hn_put, skip_n]; omega))) only [go_sem, gcl2]
    refine on2_ex (adm_waits (n := N) (by omega) k158 hcl ps.h6 hjc hw8) fun h161 kp2 => ?_
    by_cases hw0 : w8 = 0
    · rw [if_pos hw0] at hns
      simp (disch := (first | omega | assumption | rfl | (simp only [hn_new, hn_put, skip_n]; omega))) only [go_sem, hw0]
      exact ⟨cn - (jj + 1), by omega, jj + 1, by rw [hns]; simp, rfl, by omega, k158.more kp2⟩
    · rw [if_neg hw0] at hns
      simp (disch := (first | omega | assumption | rfl | (simp only [hn_new, hn_put, skip_n]; omega))) only [go_sem, hw0]
      exact ⟨cn - (jj + 1), by omega, jj + 1, by rw [hns]; simp, rfl, by omega, k158.more kp2⟩
  have hje : jj = cn := by omega
  subst hje
  have heq : ((nLen cls kk : Nat) : Int) = (nWait ws jj : Nat) := by omega
  simp (disch := (first | omega | assumption | rfl | (simp only [hn_new, hn_put, skip_n]; omega))) only [go_sem, gcl2, heq]
  exact ⟨xs.length - (i + 1), by omega, i + 1, cls, t, st, bs, ws, fs, by simp, rfl, by omega, ps, rfo, k158⟩
end Go.Proofs.Ytdncenepmkbolaa
