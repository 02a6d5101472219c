/-
  'AdmitTimely': the law's run, whatever is handed in.
-/
import Derived.Test.YtdncenepmkbolaaAdmitJ
namespace Go.Proofs.Ytdncenepmkbolaa
open Go Go.Abs Go.Abs.S Go.Abs.W
set_option maxRecDepth 10000
set_option maxHeartbeats 8000000
theorem pars10 : Try.f10.params.toList = [92, 93] := by kernel_rfl
section
variable {h h0 : Go.Abs.H} {s N : Nat} {L : List Ch} {turn : Int} {stale : Bool} {v : AV} {cls : List Cl} {A X Y Z : Ch}
theorem ain1 (k : Hs h0 (X :: A :: SL s v N cls turn stale L) h) : Hs h0 (A :: SL s v N cls turn stale (X :: L)) h :=
  k.perm (List.perm_append_comm_assoc (A :: ScC s v turn stale :: LsC 4 v (cls.map Cl.row) :: rings N cls) [X] L).symm
theorem ain2 (k : Hs h0 (X :: Y :: A :: SL s v N cls turn stale L) h) : Hs h0 (A :: SL s v N cls turn stale (X :: Y :: L)) h :=
  k.perm (List.perm_append_comm_assoc (A :: ScC s v turn stale :: LsC 4 v (cls.map Cl.row) :: rings N cls) [X, Y] L).symm
theorem ain3 (k : Hs h0 (X :: Y :: Z :: A :: SL s v N cls turn stale L) h) : Hs h0 (A :: SL s v N cls turn stale (X :: Y :: Z :: L)) h :=
  k.perm (List.perm_append_comm_assoc (A :: ScC s v turn stale :: LsC 4 v (cls.map Cl.row) :: rings N cls) [X, Y, Z] L).symm
theorem aout1 (k : Hs h0 (A :: SL s v N cls turn stale (X :: L)) h) : Hs h0 (X :: A :: SL s v N cls turn stale L) h :=
  k.perm (List.perm_append_comm_assoc (A :: ScC s v turn stale :: LsC 4 v (cls.map Cl.row) :: rings N cls) [X] L)
theorem aout2 (k : Hs h0 (A :: SL s v N cls turn stale (X :: Y :: L)) h) : Hs h0 (X :: Y :: A :: SL s v N cls turn stale L) h :=
  k.perm (List.perm_append_comm_assoc (A :: ScC s v turn stale :: LsC 4 v (cls.map Cl.row) :: rings N cls) [X, Y] L)
theorem aout3 (k : Hs h0 (A :: SL s v N cls turn stale (X :: Y :: Z :: L)) h) : Hs h0 (X :: Y :: Z :: A :: SL s v N cls turn stale L) h :=
  k.perm (List.perm_append_comm_assoc (A :: ScC s v turn stale :: LsC 4 v (cls.map Cl.row) :: rings N cls) [X, Y, Z] L)
end
theorem offR_len {bs : List (Int × Int)} {ws : List Int} (full : Bool) (c : Nat) (s t d now : Int) : (offR bs ws full c s t d now).2.1.length = bs.length ∧ (offR bs ws full c s t d now).2.2.length = ws.length := by
  unfold offR
  split
  · repeat' split
    all_goals simp [barB_len]
  · exact ⟨rfl, rfl⟩
theorem offR_zero {bs : List (Int × Int)} {ws : List Int} {full : Bool} {c : Nat} {s t d now : Int} (hb : c < bs.length) (hw : c < ws.length) (h : (offR bs ws full c s t d now).1 = 0) : full = false := by
  unfold offR at h
  rw [List.getElem?_eq_getElem hb, List.getElem?_eq_getElem hw] at h
  simp only at h
  repeat' split at h
  all_goals first
    | (rename_i hf; simpa using hf)
    | (simp at h)
/-- what Next comes to, told once for both -/
theorem next_one {h0 h' : Go.Abs.H} {a s N : Nat} {cl q now : Int} {bs : List (Int × Int)} {ws : List Int} {v r : AV} {L : List Ch} {cls : List Cl} {t : Nat} {st : Bool} (ok : ScOk N cls t st) (k : NextR h0 a s cl q bs ws v N L cls t st now r h') :
    ∃ (gs : List Fr) (vg : AV) (gc : List AV) (okb : Bool) (cls' : List Cl) (t' : Nat) (st' : Bool) (ws' : List Int), r = .tup [.agg gc, .bool okb, vg] ∧ gs.map af = expG now cls ∧ gc.length = 29 ∧ ws'.length = ws.length ∧ ScOk N cls' t' st' ∧
      (okb = false → cls' = cls.map (expC now)) ∧ (okb = true → ∃ (g : Fr) (j : Nat) (rest : List AF), gc = g.cs ∧ (QS (cls.map (expC now)))[j]? = some (af g :: rest) ∧ QS cls' = (QS (cls.map (expC now))).set j rest) ∧
      Hs h0 (LsC 29 vg (gs.map Fr.cs) :: AdC a s cl q (outB bs (gs.map af)) ws' :: SL s v N cls' (t' : Int) st' L) h' := by
  obtain ⟨gs, vg, hgs, ⟨hr, hn, hk⟩ | ⟨g, j, cls', t', st', hr, hp, ok', hk⟩⟩ := k
  · exact ⟨gs, vg, zeroC, false, _, t, st, outW ws (gs.map af), hr, hgs, rfl, outW_len _ _, ok.exp now, fun _ => rfl, (fun e => by cases e), hk⟩
  · obtain ⟨_, rest, e1, e2⟩ := pop_head hp
    exact ⟨gs, vg, g.cs, true, cls', t', st', (outW ws (gs.map af)).set (cI (af g).1 2).toNat 0, hr, hgs, g.len, by rw [List.length_set, outW_len], ok', (fun e => by cases e), fun _ => ⟨g, j, rest, rfl, e1, e2⟩, hk⟩
/-- what holds from act to act -/
structure PSt (N : Nat) (cl : Int) (m i : Nat) (cls : List Cl) (t : Nat) (st : Bool) (bs : List (Int × Int)) (ws : List Int) (T : List Tri) : Prop where
  ok : ScOk N cls t st
  ca : CaAll cl cls
  len : cls.length = m
  tk : TOk cls T i
  h6 : bs.length = 6
  w6 : ws.length = 6
  tl : T.length ≤ i
theorem law10 (h0 : Go.Abs.H) (l : List AV) (ho : HOk h0) (ha : Args h0 Try.prog Try.f10.params.toList l) : ∃ n h', callX env sums n 10 l h0 = some (.bool true, h') := by
  rw [pars10] at ha
  obtain ⟨v0, r0, rfl, a0, v1, r1, rfl, a1, rfl⟩ := ha
  obtain ⟨l0, rfl, hl0⟩ := arg_agg shape92 agg92 a0
  obtain ⟨c, vq, rfl, hvq⟩ := cfg_arg hl0
  obtain ⟨qx, hqs, hqrow, hqlen⟩ := sl_of_sh (by omega) hvq
  obtain ⟨qs, rfl⟩ := ints_rows hqrow
  have hqb := sl_blk ho hvq
  have hs1 := arg_one shape93 agg93 a1
  obtain ⟨xs, hsl, hrow, hlen⟩ := sl_of_sh (by omega) hs1
  have hblk := sl_blk ho hs1
  obtain ⟨N, hN⟩ : ∃ N, N = 3000 := ⟨_, rfl⟩
  suffices hh : W.Spec env sums (N + 1) 10 [.agg (c.cs vq), v1] h0 (fun r _ => r = .bool true) by
    obtain ⟨v, h', e, rfl⟩ := hh
    exact ⟨N + 1, h', e⟩
  generalize hX : Blk.rows 12 [c.cs vq] false none none = X
  have k1 := (Hs.start h0).new X
  refine spec_trN [.agg (c.cs vq), .v v1] rfl ft10 (by kernel_rfl) (tn10 ..) ?_
  rw [hX]
  refine ⟨rfl, ?_⟩
  rw [show ∀ K, (stdN env (callX env sums N) N).new h0 X K = K h0.n (h0.new X) from fun _ => rfl]
  generalize hHH : h0.new X = H1 at k1 ⊢
  generalize hb0 : h0.n = b0 at k1 ⊢
  have g3 : cellG 3 (H1.get b0) = some vq := by rw [k1.get, ← hX, cellG_one _ _ _ _ _ _ (by omega) (by omega)]; rfl
  have l0 : loadG 0 12 (H1.get b0) = some (c.cs vq) := by rw [k1.get, ← hX, loadG_zero _ _ _ _ _ (by omega)]; rfl
  have hql : lenS vq = some qs.length := by have := hqs.len; rwa [qrows_len] at this
  by_cases h20 : (20 : Int) < qs.length
  · simp (disch := (first | omega | assumption | rfl | (simp only [hn_new, hn_put, skip_n]; omega))) only [go_sem, g3, hql, offered_ok (n := N) (by omega)]
  by_cases h60 : (60 : Int) < xs.length
  · simp (disch := (first | omega | assumption | rfl | (simp only [hn_new, hn_put, skip_n]; omega))) only [go_sem, g3, hql, hsl.len, offered_ok (n := N) (by omega)]
  simp (disch := (first | omega | assumption | rfl | (simp only [hn_new, hn_put, skip_n]; omega))) only [go_sem, g3, hql, hsl.len, l0]
  refine on2_exb (g := fun v' => .agg (c.fit.cs v')) (ref_fit (by omega) c (hqs.keep fun b hb => k1.ext.2 b (hqb b hb)) (fun b hb => Nat.lt_of_lt_of_le (hqb b hb) k1.ext.1)) fun v' h13 kf => ?_
  have k13 := hs_onto k1 kf
  obtain ⟨d, hd⟩ : ∃ d, c.fit = d := ⟨_, rfl⟩
  have hdd : d = d.fit := by rw [← hd]; exact fit_fit c
  rw [hd]
  have s0 : storeB h13 b0 0 (d.cs v') (h13.get b0) = some (h13.put b0 (.rows 12 [d.cs v'] false none none)) := by
    rw [show h13.get b0 = some X from k13.at2.get, ← hX, storeB_rows, storeG_one _ _ _ _ (by omega), atN_zero, over_full (by rfl)]
  have k15 : Hs h0 (LsC 1 v' (qrows (fitQ qs)) :: [Cell b0 (.rows 12 [d.cs v'] false none none)]) _ := (k13.at2.put (.rows 12 [d.cs v'] false none none)).at2
  generalize hh15 : h13.put b0 (.rows 12 [d.cs v'] false none none) = h15 at s0 k15
  have l15 : loadG 0 12 (h15.get b0) = some (d.cs v') := by rw [k15.at2.get, loadG_zero _ _ _ _ _ (by omega)]; rfl
  simp (disch := (first | omega | assumption | rfl | (simp only [hn_new, hn_put, skip_n]; omega))) only [go_sem, show (d.cs v').length = 12 from rfl, s0, l15]
  have hfo := fitQ_ok qs
  refine on2_exb (g := fun a : Nat => .tup [.ptr a 0, .int .i64 0]) (adm_new (n := N) (by omega) d k15 hfo.1 hfo.2 hdd) fun a h18 ⟨s, vs, cls, hf, k18⟩ => ?_
  have hcl : 1 ≤ d.cli ∧ d.cli ≤ 6 := by rw [hdd]; simp only [C11.fit]; omega
  obtain ⟨q, hq⟩ : ∃ q : Int, ((fitQ qs).length : Int) = q := ⟨_, rfl⟩
  rw [hq] at k18
  obtain ⟨M, hM⟩ : ∃ M, d.queue.toNat = M := ⟨_, rfl⟩
  have hM16 : M ≤ 16 := by rw [← hM, hdd]; simp only [C11.fit]; omega
  rw [hM] at k18
  obtain ⟨m, hm⟩ : ∃ m, (fitQ qs).length = m := ⟨_, rfl⟩
  have hmq : q = (m : Int) := by rw [← hq, hm]
  have hm4 : 1 ≤ m ∧ m ≤ 4 := by rw [← hm]; exact hfo.1
  have hcl0 : cls.length = m := by have := congrArg List.length hf.1; rw [← hm, ← this]; simp
  have hqe : ∀ c ∈ cls, c.qs = [] := fun c hc => (hf.2 c hc).2.2
  have p0 : PSt M d.cli m 0 cls 0 false (List.replicate 6 (0, 0)) (List.replicate 6 0) [] := ⟨ScOk.fresh hf hfo.1 hfo.2, (fun i c hc a ha => by rw [hqe c (List.mem_of_getElem? hc)] at ha; cases ha), hcl0, ⟨List.nodup_nil, (fun k c hc => by rw [hqe c (List.mem_of_getElem? hc)]; rfl), (fun t ht => by cases ht), (fun t ht => by cases ht)⟩, by simp, by simp, Nat.le_refl _⟩
  generalize hLQ : LsC 1 v' (qrows (fitQ qs)) = LQ at k18
  have k18 : Hs h0 (AdC a s d.cli q (List.replicate 6 (0, 0)) (List.replicate 6 0) :: SL s vs M cls 0 false (Cell b0 (.rows 12 [d.cs v'] false none none) :: [LQ])) h18 := ain2 ((aout2 k18).at2)
  have hvl : ∀ (H : Go.Abs.H) (X : List Ch), Hs h0 (LQ :: X) H → lenS v' = some m := fun H X k => by rw [← hLQ] at k; have := k.sl.len; rwa [qrows_len, hm] at this
  have hvl' : lenS v' = some m := hvl _ _ (aout2 k18).at2
  clear hvl
  have k22 := ain1 (k18.nil 3)
  simp (disch := (first | omega | assumption | rfl | (simp only [hn_new, hn_put, skip_n]; omega))) only [go_sem]
  refine ⟨fun l μ h => ∃ (i : Nat) (now : Int) (w : AV) (T : List Tri) (cls : List Cl) (t : Nat) (st : Bool) (bs : List (Int × Int)) (ws : List Int), l = [.int .i64 now, w, .int .i64 i] ∧ μ = xs.length - i ∧ i ≤ xs.length ∧ (0 ≤ now ∧ now ≤ 2 * i) ∧ PSt M d.cli m i cls t st bs ws T ∧ Hs h0 (AdC a s d.cli q bs ws :: SL s vs M cls (t : Int) st (LsC 3 w (trows T) :: Cell b0 (.rows 12 [d.cs v'] false none none) :: [LQ])) h, ⟨xs.length, by omega, 0, 0, .nils, [], cls, 0, false, _, _, rfl, by omega, by omega, by omega, p0, k22⟩, ?_⟩
  clear k22 k18 p0 hcl0 hqe hf l15 s0 k15 k13 kf l0 g3
  intro now w n26 μ27 h28 ⟨i, now0, w0, T, cls, t, st, bs, ws, e, hμ, hi, hnow, ps, k28⟩
  cases e; subst hμ
  have hslh : SlR h28 7 v1 xs := hsl.keep fun b hb => k28.ext.2 b (hblk b hb)
  by_cases hlt : (i : Int) < xs.length
  rotate_left
  · simp (disch := (first | omega | assumption | rfl | (simp only [hn_new, hn_put, skip_n]; omega))) only [go_sem, hslh.len, offered_ok (n := N) (by omega)]
  obtain ⟨r, hr⟩ : ∃ r, xs[i]? = some r := ⟨xs[i], List.getElem?_eq_getElem (by omega)⟩
  obtain ⟨ra, rb, rc, rd, re, rf, rg, rfl, u1, u2, u3, u4, u5, u6⟩ := try_row (hrow r (List.mem_of_getElem? hr))
  obtain ⟨b, o, p1, p2, _, _⟩ := hslh.idx hr
  obtain ⟨k, hk⟩ : ∃ k : Nat, ra.tmod d.cli = k := ⟨(ra.tmod d.cli).toNat, by rw [Int.tmod_eq_emod_of_nonneg u1.1]; have := Int.emod_nonneg ra (show d.cli ≠ 0 by omega); omega⟩
  have hkc : (k : Int) < d.cli := by rw [← hk, Int.tmod_eq_emod_of_nonneg u1.1]; exact Int.emod_lt_of_pos _ (by omega)
  obtain ⟨kc, hkk⟩ : ∃ kc : Nat, rd.tmod (m : Int) = kc := ⟨(rd.tmod (m : Int)).toNat, by rw [Int.tmod_eq_emod_of_nonneg u4.1]; have := Int.emod_nonneg rd (show (m : Int) ≠ 0 by omega); omega⟩
  have hkm : kc < m := by have : (kc : Int) < m := by rw [← hkk, Int.tmod_eq_emod_of_nonneg u4.1]; exact Int.emod_lt_of_pos _ (by omega)
                          omega
  obtain ⟨now', hnow'⟩ : ∃ now' : Int, now + rf.tmod 3 = now' := ⟨_, rfl⟩
  obtain ⟨dl, hdl⟩ : ∃ dl : Int, now' + re.tmod 9 = dl := ⟨_, rfl⟩
  have hn1 : now ≤ now' ∧ now' ≤ now + 2 := by rw [Int.tmod_eq_emod_of_nonneg u6.1] at hnow'; omega
  have hd1 : now' ≤ dl ∧ dl ≤ now' + 8 := by rw [Int.tmod_eq_emod_of_nonneg u5.1] at hdl; omega
  have c3 : ¬ (3 : Int) = 0 := by omega
  have c9 : ¬ (9 : Int) = 0 := by omega
  have ccl : ¬ d.cli = 0 := by omega
  have cm : ¬ (m : Int) = 0 := by omega
  have ka := aout2 k28
  have hb0 := ka.at2.lt
  have gcl : cellG 2 (h28.get b0) = some (.int .i64 d.cli) := by rw [ka.at2.get, cellG_one _ _ _ _ _ _ (by omega) (by omega)]; rfl
  generalize hrow7 : [AV.int .u8 ra, .int .u8 rb, .int .u8 rc, .int .u8 rd, .int .u8 re, .int .u8 rf, .bool rg] = row at p2
  have ov7 : over row [.int .u8 0, .int .u8 0, .int .u8 0, .int .u8 0, .int .u8 0, .int .u8 0, .bool false] = some row := by rw [← hrow7]; rfl
  have k35 := (k28.new (.rows 7 [[.int .u8 0, .int .u8 0, .int .u8 0, .int .u8 0, .int .u8 0, .int .u8 0, .bool false]] false none none)).put (.rows 7 [row] false none none)
  have k38 := k35.skip (n := 17) (i := 15) (by omega)
  have r0 : nth row 0 = some (.int .u8 ra) := by rw [← hrow7]; rfl
  have r3 : nth row 3 = some (.int .u8 rd) := by rw [← hrow7]; rfl
  have r4 : nth row 4 = some (.int .u8 re) := by rw [← hrow7]; rfl
  have r5 : nth row 5 = some (.int .u8 rf) := by rw [← hrow7]; rfl
  have r6 : nth row 6 = some (.bool rg) := by rw [← hrow7]; rfl
  have hrl : row.length = 7 := by rw [← hrow7]; rfl
  simp (disch := (first | omega | assumption | rfl | (simp only [hn_new, hn_put, skip_n]; omega))) only [go_sem, hslh.len, p1, p2, hrl, ov7, r0, r4, r5, c3, c9, ccl, gcl, hk, hnow', hdl]
  refine on2_ex (call_ok (n := N) (by omega) k (1 + i) 1 dl _) fun h43 kp => ?_
  have k43 : Hs h0 (Free (h28.n + 1 + 15) :: Cell h28.n (.rows 7 [row] false none none) :: AdC a s d.cli q bs ws :: SL s vs M cls (t : Int) st (LsC 3 w (trows T) :: Cell b0 (.rows 12 [d.cs v'] false none none) :: [LQ])) h43 := k38.more kp
  generalize hbf : h28.n + 1 + 15 = bf at k43 ⊢
  generalize hb33 : h28.n = b33 at k43 ⊢
  rw [hb33] at hbf hb0
  have hne1 : b33 ≠ bf := by omega
  have hne2 : b0 ≠ bf := by omega
  have hne3 : b0 ≠ b33 := by omega
  obtain ⟨f0, hf0⟩ : ∃ f0, cal k (1 + i) 1 0 dl = f0 := ⟨_, rfl⟩
  obtain ⟨f1, hf1⟩ : ∃ f1, cal k (1 + i) 1 kc dl = f1 := ⟨_, rfl⟩
  rw [hf0]
  have ovf : over f0.cs zeroC = some f0.cs := over_full f0.len
  have hst : ∀ (h : Go.Abs.H) (b : Nat), storeB h b 5 [.int .i64 kc] (some (.rows 29 [f0.cs] false none none)) = some (h.put b (.rows 29 [f1.cs] false none none)) := by
    intro h b
    have := st_one (b := b) (i := 5) (x := .int .i64 kc) h (r := f0.cs) (by rw [Fr.len]; omega)
    rw [Fr.len] at this
    rw [this, ← hf0, ← hf1]; rfl
  have g33 := k43.at2.get
  have gb0 : cellG 3 (h43.get b0) = some v' := by rw [(aout2 k43.drop.drop).at2.get, cellG_one _ _ _ _ _ _ (by omega) (by omega)]; rfl
  have k50 := ((k43.fput (.rows 29 [zeroC] false none none)).put (.rows 29 [f0.cs] false none none)).put (.rows 29 [f1.cs] false none none)
  simp (disch := (first | omega | assumption | rfl | (simp only [hn_new, hn_put, skip_n]; omega))) only [go_sem, f0.len, ovf, g33, r3, gb0, hvl', cm, hkk, hst]
  generalize ((h43.put bf (.rows 29 [zeroC] false none none)).put bf (.rows 29 [f0.cs] false none none)).put bf (.rows 29 [f1.cs] false none none) = h50 at k50 ⊢
  refine ⟨fun l h => ∃ (w : AV) (T : List Tri) (cls : List Cl) (t : Nat) (st : Bool) (bs : List (Int × Int)) (ws : List Int), l = [w] ∧ PSt M d.cli m (i + 1) cls t st bs ws T ∧ Hs h0 (AdC a s d.cli q bs ws :: SL s vs M cls (t : Int) st (LsC 3 w (trows T) :: Cell b33 (.rows 7 [row] false none none) :: Cell b0 (.rows 12 [d.cs v'] false none none) :: [LQ])) h, ?_, ?_⟩
  · -- the call is offered
    have hca : CaOk d.cli kc (af f1) := by
      rw [← hf1]
      exact ⟨⟨dl, rfl⟩, ⟨by show (0 : Int) ≤ k; omega, hkc⟩, ⟨by show (1 : Int) ≤ 1 + i; omega, by show (1 : Int) + i ≤ _; omega⟩, ⟨by show (1 : Int) ≤ 1; omega, by show (1 : Int) ≤ _; omega⟩⟩
    have x2 : cI (af f1).1 2 = k := by rw [← hf1]; rfl
    have x3 : cI (af f1).1 3 = 1 + i := by rw [← hf1]; rfl
    have x4 : cI (af f1).1 4 = 1 := by rw [← hf1]; rfl
    have x6 : cI (af f1).1 6 = dl := by rw [← hf1]; rfl
    obtain ⟨cc, hcc⟩ : ∃ cc, cls[kc]? = some cc := ⟨cls[kc]'(by rw [ps.len]; exact hkm), List.getElem?_eq_getElem _⟩
    have l0 : loadG 0 29 (h50.get bf) = some f1.cs := by rw [k50.get, loadG_zero _ _ _ _ _ (by omega)]; rfl
    simp (disch := (first | omega | assumption | rfl | (simp only [hn_new, hn_put, skip_n]; omega))) only [go_sem, l0, hnow']
    refine on2_ex (adm_offer (n := N) (cln := k) (by omega) (ain2 k50) hcl (by omega) (by rw [ps.len, hmq]) ps.h6 ps.w6 f1 hca hcc x2 (by omega)) fun h54 k54 => ?_
    obtain ⟨hRb, hRw⟩ := offR_len (bs := bs) (ws := ws) (decide (M ≤ cc.qs.length)) k (cI (af f1).1 3) (cI (af f1).1 4) (cI (af f1).1 6) now'
    have hRz := offR_zero (bs := bs) (ws := ws) (full := decide (M ≤ cc.qs.length)) (c := k) (s := cI (af f1).1 3) (t := cI (af f1).1 4) (d := cI (af f1).1 6) (now := now') (by rw [ps.h6]; omega) (by rw [ps.w6]; omega)
    generalize offR bs ws (decide (M ≤ cc.qs.length)) k (cI (af f1).1 3) (cI (af f1).1 4) (cI (af f1).1 6) now' = R at k54 hRb hRw hRz ⊢
    by_cases hz : R.1 = 0
    · rw [if_pos hz] at k54
      have hfull : cc.qs.length < M := by have := hRz hz; simpa using this
      have ka := aout3 k54
      have k57 := ka.skip (n := 12) (i := 9) (by omega)
      obtain ⟨v58, h59, q1, q2, q3, _⟩ := k57.clone (es := 3) (v := .nils) (by omega) 24 (.inl rfl) k57.at4.sl (by rw [trows_len]; have := ps.tl; omega) (by rw [trows_len]; have := ps.tl; omega)
      have fc : ∀ {H : Go.Abs.H}, H.get bf = some (.rows 29 [f1.cs] false none none) → cellG 5 (H.get bf) = some (.int .i64 kc) ∧ cellG 2 (H.get bf) = some (.int .i64 k) ∧ cellG 3 (H.get bf) = some (.int .i64 (1 + i)) := fun e => by
        rw [e]
        exact ⟨fr_cell f1 (by omega) hca.c5, by rw [← x2]; exact fr_cell f1 (by omega) hca.c2, by rw [← x3]; exact fr_cell f1 (by omega) hca.c3⟩
      obtain ⟨y5, y2, y3⟩ := fc ka.get
      obtain ⟨z5, z2, z3⟩ := fc q2.at3.get
      have k63 := q2.at2.fput (.rows 3 [[.int .i64 kc, .int .i64 k, .int .i64 (1 + i)]] false none none)
      obtain ⟨v64, h65, s1, s2, s3⟩ := k63.at2.app (by omega) 24 (rows_one k63.get (by omega) 1) (by rw [trows_len]; have := ps.tl; simp only [List.length_nil]; omega) (by rw [trows_len]; have := ps.tl; simp only [List.length_nil]; omega)
      simp (disch := (first | omega | assumption | rfl | (simp only [hn_new, hn_put, skip_n]; omega))) only [go_sem, hz, q1, z5, z2, z3, s1, y5, y2, y3]
      have htri : tri (af f1) = ((kc : Int), cI (af f1).1 2, (i : Int) + 1) := by
        unfold tri
        rw [hca.kls, x3, Int.add_comm]
      have ht2 : trows T ++ [[.int .i64 kc, .int .i64 k, .int .i64 (1 + i)]] = trows (T ++ [tri (af f1)]) := by
        unfold trows
        rw [List.map_append, htri, x2]
        simp [trow, Int.add_comm]
      rw [ht2] at s2
      exact ⟨v64, T ++ [tri (af f1)], _, t, st, _, _, rfl, ⟨ps.ok.push hcc hfull hca.op, ps.ca.push hcc hca, by rw [List.length_set]; exact ps.len, (ps.tk.push hcc htri).mono (by omega), by rw [hRb, ps.h6], by rw [hRw, ps.w6], by have := ps.tl; simp; omega⟩, ain2 s2.at2.drop.at2.drop.at3.drop⟩
    · rw [if_neg hz] at k54
      have ka := aout3 k54
      simp (disch := (first | omega | assumption | rfl | (simp only [hn_new, hn_put, skip_n]; omega))) only [go_sem, hz]
      exact ⟨w, T, cls, t, st, _, _, rfl, ⟨ps.ok, ps.ca, ps.len, ps.tk.mono (by omega), by rw [hRb, ps.h6], by rw [hRw, ps.w6], by have := ps.tl; omega⟩, ain2 ka.drop.at2⟩
  clear k50 ps k28 k35 k38 k43 ka gb0 g33 hslh
  intro w h68 ⟨w0, T, cls, t, st, bs, ws, e, ps, k68⟩
  cases e
  have ka := aout2 k68
  have g33 : cellG 6 (h68.get b33) = some (.bool rg) := by rw [ka.at2.get, cellG_one _ _ _ _ _ _ (by omega) (by omega)]; exact r6
  by_cases hrg : rg = true
  rotate_left
  · have hrg : rg = false := by
      cases rg with
      | false => rfl
      | true => exact absurd rfl hrg
    subst hrg
    simp (disch := (first | omega | assumption | rfl | (simp only [hn_new, hn_put, skip_n]; omega))) only [go_sem, g33, hnow']
    exact ⟨xs.length - (i + 1), by omega, i + 1, now', w, T, cls, t, st, bs, ws, by simp, rfl, by omega, by omega, ps, ain1 (ka.at2.drop)⟩
  subst hrg
  simp (disch := (first | omega | assumption | rfl | (simp only [hn_new, hn_put, skip_n]; omega))) only [go_sem, g33, hnow']
  refine on2_ex2 (adm_next (n := N) (now := now') (by omega) k68 ps.ok hM16 hcl ps.h6 ps.w6 ps.ca) fun rr h71 hnr => ?_
  obtain ⟨gs, vg, gc, okb, cls', t', st', ws', hrr, hgs, hgc, hws', ok', hno, hyes, k71⟩ := next_one ps.ok hnr
  subst hrr
  have hA : gs.length = (expG now' cls).length := by rw [← hgs, List.length_map]
  have hgl : gs.length ≤ 64 := by rw [hA]; exact expG_len ps.ok hM16
  have ovg : over gc zeroC = some gc := over_full (by rw [hgc]; rfl)
  have k79 := (k71.new (.rows 29 [zeroC] false none none)).put (.rows 29 [gc] false none none)
  simp (disch := (first | omega | assumption | rfl | (simp only [hn_new, hn_put, skip_n]; omega))) only [go_sem, hgc, ovg]
  generalize hh79 : (h71.new (.rows 29 [zeroC] false none none)).put h71.n (.rows 29 [gc] false none none) = h79 at k79 ⊢
  generalize h71.n = b77 at k79 ⊢
  have k79 : Hs h0 (LsC 3 w (trows T) :: Cell b77 (.rows 29 [gc] false none none) :: LsC 29 vg (gs.map Fr.cs) :: AdC a s d.cli q (outB bs (gs.map af)) ws' :: SL s vs M cls' (t' : Int) st' (Cell b0 (.rows 12 [d.cs v'] false none none) :: [LQ])) h79 :=
    (k79.perm (List.perm_append_comm_assoc (Cell b77 (.rows 29 [gc] false none none) :: LsC 29 vg (gs.map Fr.cs) :: AdC a s d.cli q (outB bs (gs.map af)) ws' :: ScC s vs t' st' :: LsC 4 vs (cls'.map Cl.row) :: rings M cls') [LsC 3 w (trows T), Cell b33 (.rows 7 [row] false none none)] (Cell b0 (.rows 12 [d.cs v'] false none none) :: [LQ]))).at2.drop
  refine ⟨fun l h => l = [] ∧ h79 = h, ?_, ?_⟩
  · cases okb with
    | false =>
      simp (disch := (first | omega | assumption | rfl | (simp only [hn_new, hn_put, skip_n]; omega))) only [go_sem]
    | true =>
      obtain ⟨g, j, rest, e1, e2, e3⟩ := hyes rfl
      have hgo : CaOk d.cli j (af g) ∧ late now' (af g) = false := by
        rw [List.getElem?_map, Option.map_eq_some_iff] at e2
        obtain ⟨c, hc, hcq⟩ := e2
        have hm1 : af g ∈ c.qs := by rw [hcq]; simp
        refine ⟨(ps.ca.exp now') j c hc _ hm1, ?_⟩
        rw [List.getElem?_map, Option.map_eq_some_iff] at hc
        obtain ⟨c0, _, rfl⟩ := hc
        have := (List.mem_filter.1 hm1).2
        simpa using this
      have g6 : cellG 6 (h79.get b77) = some (.int .i64 (cI (af g).1 6)) := by rw [k79.at2.get, e1]; exact fr_cell g (by omega) hgo.1.c6
      have hnl : ¬ cI (af g).1 6 < now' := by have := hgo.2; unfold late at this; simpa using this
      simp (disch := (first | omega | assumption | rfl | (simp only [hn_new, hn_put, skip_n]; omega))) only [go_sem, g6, hnl]
  intro h83 ⟨_, e⟩
  subst e
  have h6' : (outB bs (gs.map af)).length = 6 := by rw [outB_len, ps.h6]
  have w6' : ws'.length = 6 := by rw [hws', ps.w6]
  have hlb : lenS vg = some gs.length := by have := k79.at3.sl.len; simpa using this
  have hTJ0 : TJ T (gs.map af) 0 = T := by unfold TJ; simp
  have hTJl : ∀ j, (TJ T (gs.map af) j).length ≤ 61 := fun j => by have := List.length_filter_le (fun t => decide (t ∉ ((gs.map af).take j).map tri)) T; have := ps.tl; unfold TJ; omega
  refine ⟨fun l μ h => ∃ (j : Nat) (w : AV), l = [w, .int .i64 j] ∧ μ = gs.length - j ∧ j ≤ gs.length ∧ Hs h0 (LsC 3 w (trows (TJ T (gs.map af) j)) :: Cell b77 (.rows 29 [gc] false none none) :: LsC 29 vg (gs.map Fr.cs) :: AdC a s d.cli q (outB bs (gs.map af)) ws' :: SL s vs M cls' (t' : Int) st' (Cell b0 (.rows 12 [d.cs v'] false none none) :: [LQ])) h, ⟨gs.length, by omega, 0, w, rfl, by omega, by omega, by rw [hTJ0]; exact k79⟩, ?_⟩
  clear k79
  intro w n87 μ88 h89 ⟨j, w0, e, hμ, hj, k89⟩
  cases e; subst hμ
  have hwl : lenS w = some (TJ T (gs.map af) j).length := by have := k89.sl.len; rwa [trows_len] at this
  by_cases hjl : (j : Int) < gs.length
  · -- one that is gone
    obtain ⟨g, hg⟩ : ∃ g, gs[j]? = some g := ⟨gs[j], List.getElem?_eq_getElem (by omega)⟩
    have hgA : (gs.map af)[j]? = some (af g) := by rw [List.getElem?_map, hg]; rfl
    have hgm : af g ∈ expG now' cls := by rw [← hgs]; exact List.mem_of_getElem? hgA
    obtain ⟨mm, cc, hcc, hcm, hlate⟩ := gone_mem hgm
    have hgo := ps.ca mm cc hcc _ hcm
    obtain ⟨cn, hcn⟩ : ∃ cn : Nat, cI (af g).1 2 = cn := ⟨(cI (af g).1 2).toNat, by have := hgo.r2; omega⟩
    have hcl2 := hgo.r2
    rw [hcn] at hcl2
    obtain ⟨p, hp⟩ : ∃ p, (outB bs (gs.map af))[cn]? = some p := ⟨_, List.getElem?_eq_getElem (by rw [h6']; omega)⟩
    have hbar : ¬ before p (cI (af g).1 3, cI (af g).1 4) := by
      have := outB_gone (A := gs.map af) (bs := bs) (a := af g) (r := p) (List.mem_of_getElem? hgA) (by rw [hcn, ps.h6]; omega) (by rw [hcn]; exact hp)
      exact this
    have hdl6 : now' ≤ cI (af g).1 6 → False := fun h => by
      unfold late at hlate
      have := of_decide_eq_true hlate
      omega
    have hnl : ¬ now' ≤ cI (af g).1 6 := hdl6
    have hx : ∀ {H : Go.Abs.H} {w : AV} {T' : List Tri} {R : List Ch}, Hs h0 (LsC 3 w (trows T') :: Cell b77 (.rows 29 [gc] false none none) :: LsC 29 vg (gs.map Fr.cs) :: R) H → ∃ b o, idxS 29 vg (j : Int) = some (b, o) ∧ cellG (o + 2) (H.get b) = some (.int .i64 cn) ∧ cellG (o + 3) (H.get b) = some (.int .i64 (cI (af g).1 3)) ∧ cellG (o + 4) (H.get b) = some (.int .i64 (cI (af g).1 4)) ∧ cellG (o + 5) (H.get b) = some (.int .i64 mm) ∧ cellG (o + 6) (H.get b) = some (.int .i64 (cI (af g).1 6)) := by
      intro H w T' R k
      obtain ⟨b, o, e1, _, e3, _⟩ := k.at3.sl.idx (i := j) (r := g.cs) (by rw [List.getElem?_map, hg]; rfl)
      have cx : ∀ i x, i < 24 → nth (af g).1 i = some x → cellG (o + i) (H.get b) = some x := fun i x hi hx => by
        have := e3 i (by omega)
        rw [cellQ_some _ _ _ (by omega), fr_nth g hi, hx] at this
        exact this
      exact ⟨b, o, e1, by rw [← hcn]; exact cx 2 _ (by omega) hgo.c2, cx 3 _ (by omega) hgo.c3, cx 4 _ (by omega) hgo.c4, cx 5 _ (by omega) hgo.c5, cx 6 _ (by omega) hgo.c6⟩
    have k92 := k89.more ((Keep.refl _ _).skip 27)
    obtain ⟨bx, ox, y1, y2, y3, y4, y5, y6⟩ := hx k89
    simp (disch := (first | omega | assumption | rfl | (simp only [hn_new, hn_put, skip_n]; omega))) only [go_sem, hlb, y1, y6, hnl, y2, y3, y4]
    refine on2_ex (adm_barred (n := N) (by omega) k92.at4 hcl h6' hcl2.2 hp (cI (af g).1 3) (cI (af g).1 4)) fun h106 kp => ?_
    rw [decide_eq_false hbar]
    have k109 := (k92.more kp).more ((Keep.refl _ _).skip 18)
    obtain ⟨bz, oz, z1, z2, z3, z4, z5, z6⟩ := hx k109
    rw [y1] at z1; cases z1
    rw [skip_get] at z2 z3 z5
    simp (disch := (first | omega | assumption | rfl | (simp only [hn_new, hn_put, skip_n]; omega))) only [go_sem, y1, z5, z2, z3]
    have htg : tri (af g) = ((mm : Int), (cn : Int), cI (af g).1 3) := by unfold tri; rw [hgo.kls, hcn]
    refine on2_ex2 (left_ok (n := N) (by omega) k109 (by have := hTJl j; omega) ((mm : Int), (cn : Int), cI (af g).1 3)) fun w' h120 k120 => ?_
    have hst := TJ_step (T := T) hgA
    rw [htg] at hst
    rw [← hst] at k120
    have hlen := TJ_len (now := now') ps.tk ps.ca (j := j) (a := af g) (by rw [← hgs]; exact hgA)
    rw [← hgs] at hlen
    have hwl' : lenS w' = some (TJ T (gs.map af) (j + 1)).length := by have := k120.sl.len; rwa [trows_len] at this
    have hle := hTJl j
    have heq : ((TJ T (gs.map af) (j + 1)).length : Int) = ((TJ T (gs.map af) j).length : Int) - 1 := by omega
    simp (disch := (first | omega | assumption | rfl | (simp only [hn_new, hn_put, skip_n]; omega))) only [go_sem, hwl', hwl, heq]
    exact ⟨gs.length - (j + 1), by omega, j + 1, w', by simp, rfl, by omega, k120.at2.drop⟩
  have hje : j = gs.length := by omega
  subst hje
  have htk := ps.tk.exp (now := now') ps.ca
  rw [← hgs, List.length_map] at htk
  obtain ⟨T1, hT1⟩ : ∃ T1, TJ T (gs.map af) gs.length = T1 := ⟨_, rfl⟩
  rw [hT1] at htk k89 hwl
  have hT1l : T1.length ≤ i + 1 := by
    have := List.length_filter_le (fun t => decide (t ∉ ((gs.map af).take gs.length).map tri)) T
    have := ps.tl
    rw [← hT1]; unfold TJ; omega
  cases okb with
  | false =>
    have hc' := hno rfl
    simp (disch := (first | omega | assumption | rfl | (simp only [hn_new, hn_put, skip_n]; omega))) only [go_sem, hlb]
    refine ⟨xs.length - (i + 1), by omega, i + 1, now', w, T1, cls', t', st', _, _, by simp [hnow'], rfl, by omega, by omega, ⟨ok', by rw [hc']; exact ps.ca.exp now', by rw [hc', List.length_map]; exact ps.len, by rw [hc']; exact htk, h6', w6', hT1l⟩, ain1 k89.at2.drop.at2.drop⟩
  | true =>
    obtain ⟨g, j, rest, e1, e2, e3⟩ := hyes rfl
    subst e1
    have hex : ∃ c, (cls.map (expC now'))[j]? = some c ∧ c.qs = af g :: rest := by
      rw [List.getElem?_map, Option.map_eq_some_iff] at e2
      obtain ⟨c, hc, hcq⟩ := e2
      exact ⟨c, hc, hcq⟩
    obtain ⟨c, hc, hcq⟩ := hex
    have hgo := (ps.ca.exp now') j c hc (af g) (by rw [hcq]; simp)
    have hfil : T1.filter (fun t => decide (t.1 = (j : Int))) = tri (af g) :: rest.map tri := by rw [htk.cl j c hc, hcq]; rfl
    have hlen' : cls'.length = m := by
      have := congrArg List.length e3
      simp at this
      rw [this, ps.len]
    have hbx : ∀ {H : Go.Abs.H} {X : Ch} {R : List Ch}, Hs h0 (X :: Cell b77 (.rows 29 [g.cs] false none none) :: R) H → cellG 5 (H.get b77) = some (.int .i64 j) ∧ cellG 2 (H.get b77) = some (.int .i64 (cI (af g).1 2)) ∧ cellG 3 (H.get b77) = some (.int .i64 (cI (af g).1 3)) := fun k => by
      rw [k.at2.get]
      exact ⟨fr_cell g (by omega) hgo.c5, fr_cell g (by omega) hgo.c2, fr_cell g (by omega) hgo.c3⟩
    have a30 : arrI 3 0 = some 0 := rfl
    have a31 : arrI 3 1 = some 1 := rfl
    have a32 : arrI 3 2 = some 2 := rfl
    have htx : ∀ {H : Go.Abs.H} {R : List Ch} {u : Nat} {x : Tri}, Hs h0 (LsC 3 w (trows T1) :: R) H → T1[u]? = some x → ∃ b o, idxS 3 w (u : Int) = some (b, o) ∧ cellG o (H.get b) = some (.int .i64 x.1) ∧ cellG (o + 1) (H.get b) = some (.int .i64 x.2.1) ∧ cellG (o + 2) (H.get b) = some (.int .i64 x.2.2) := by
      intro H R u x k hx
      obtain ⟨b, o, f1, _, f3, _⟩ := k.sl.idx (trows_get hx)
      have cx : ∀ i y, i < 3 → nth (trow x) i = some y → cellG (o + i) (H.get b) = some y := fun i y hi hy => by
        have := f3 i hi
        rw [cellQ_some _ _ _ (by omega), hy] at this
        exact this
      exact ⟨b, o, f1, by have := cx 0 _ (by omega) rfl; rwa [Nat.add_zero] at this, cx 1 _ (by omega) rfl, cx 2 _ (by omega) rfl⟩
    simp (disch := (first | omega | assumption | rfl | (simp only [hn_new, hn_put, skip_n]; omega))) only [go_sem, hlb, hwl]
    refine ⟨fun l μ h => ∃ (kk : Nat) (first : Int), l = [.int .i64 first, .int .i64 ((kk : Int) - 1)] ∧ μ = kk ∧ kk ≤ T1.length ∧
      ((first = -1 ∧ ∀ (u : Nat) (x : Tri), kk ≤ u → T1[u]? = some x → decide (x.1 = (j : Int)) = false) ∨ (∃ f : Nat, first = f ∧ kk ≤ f ∧ ∃ x, T1[f]? = some x ∧ decide (x.1 = (j : Int)) = true ∧ ∀ (u : Nat) (y : Tri), kk ≤ u → u < f → T1[u]? = some y → decide (y.1 = (j : Int)) = false)) ∧
      Hs h0 (LsC 3 w (trows T1) :: Cell b77 (.rows 29 [g.cs] false none none) :: LsC 29 vg (gs.map Fr.cs) :: AdC a s d.cli q (outB bs (gs.map af)) ws' :: SL s vs M cls' (t' : Int) st' (Cell b0 (.rows 12 [d.cs v'] false none none) :: [LQ])) h,
      ⟨T1.length, by omega, T1.length, -1, by simp (disch := (first | omega | assumption | rfl | (simp only [hn_new, hn_put, skip_n]; omega))) only [go_sem], rfl, Nat.le_refl _, .inl ⟨rfl, fun u x hu hx => by have := (List.getElem?_eq_some_iff.1 hx).1; omega⟩, k89⟩, ?_⟩
    clear k89
    intro n126 n127 kk h129 ⟨kk0, first, e, hμ, hkk, hfi, k129⟩
    cases e; subst hμ
    cases kk with
    | succ kk =>
      obtain ⟨x, hx⟩ : ∃ x, T1[kk]? = some x := ⟨T1[kk], List.getElem?_eq_getElem (by omega)⟩
      have ek : (((kk + 1 : Nat) : Int)) - 1 = kk := by omega
      rw [ek]
      obtain ⟨b, o, f1, f2, _, _⟩ := htx k129 hx
      obtain ⟨x5, _, _⟩ := hbx k129
      have k131 := k129.more ((Keep.refl _ _).skip 8)
      by_cases hxj : x.1 = (j : Int)
      · simp (disch := (first | omega | assumption | rfl | (simp only [hn_new, hn_put, skip_n]; omega))) only [go_sem, f1, a30, f2, x5, Nat.mul_one, hxj]
        refine ⟨kk, by omega, kk, (kk : Int), rfl, rfl, by omega, .inr ⟨kk, rfl, Nat.le_refl _, x, hx, decide_eq_true hxj, fun u y h1 h2 => by omega⟩, k131⟩
      · simp (disch := (first | omega | assumption | rfl | (simp only [hn_new, hn_put, skip_n]; omega))) only [go_sem, f1, a30, f2, x5, Nat.mul_one, hxj]
        refine ⟨kk, by omega, kk, n126, rfl, rfl, by omega, ?_, k131⟩
        have hext : ∀ (u : Nat) (y : Tri), kk ≤ u → ¬ kk + 1 ≤ u → T1[u]? = some y → decide (y.1 = (j : Int)) = false := fun u y h1 h2 hy => by
          have : u = kk := by omega
          subst this
          rw [hx] at hy; cases hy
          exact decide_eq_false hxj
        rcases hfi with ⟨h1, h2⟩ | ⟨f, h1, h2, y, h3, h4, h5⟩
        · refine .inl ⟨h1, fun u y hu hy => ?_⟩
          by_cases hu2 : kk + 1 ≤ u
          · exact h2 u y hu2 hy
          · exact hext u y hu hu2 hy
        · refine .inr ⟨f, h1, by omega, y, h3, h4, fun u z hu huf hz => ?_⟩
          by_cases hu2 : kk + 1 ≤ u
          · exact h5 u z hu2 huf hz
          · exact hext u z hu hu2 hz
    | zero =>
      rcases hfi with ⟨h1, h2⟩ | ⟨f, h1, h2, x, h3, h4, h5⟩
      · exfalso
        have : T1.filter (fun t => decide (t.1 = (j : Int))) = [] := by
          rw [List.filter_eq_nil_iff]
          intro y hy
          obtain ⟨u, hu, rfl⟩ := List.getElem_of_mem hy
          rw [h2 u _ (Nat.zero_le _) (List.getElem?_eq_getElem hu)]
          simp
        rw [this] at hfil
        cases hfil
      · subst h1
        have hxg := first_is hfil h3 h4 (fun u y hu hy => h5 u y (Nat.zero_le _) hu hy)
        subst hxg
        have k138 := k129.more ((Keep.refl _ _).skip 22)
        obtain ⟨b, o, f1, _, f3, f4⟩ := htx k129 h3
        obtain ⟨x5, x2, x3⟩ := hbx k129
        have f3 : cellG (o + 1) (h129.get b) = some (.int .i64 (cI (af g).1 2)) := f3
        have f4 : cellG (o + 2) (h129.get b) = some (.int .i64 (cI (af g).1 3)) := f4
        have z0 : ¬ (0 : Int) ≤ ((0 : Nat) : Int) - 1 := by omega
        simp (disch := (first | omega | assumption | rfl | (simp only [hn_new, hn_put, skip_n]; omega))) only [go_sem, z0, f1, a31, a32, f3, f4, x5, x2, x3, Nat.mul_one]
        refine on2_ex2 (left_ok (n := N) (by omega) k138 (by omega) ((j : Int), cI (af g).1 2, cI (af g).1 3)) fun w' h146 k146 => ?_
        have htg : tri (af g) = ((j : Int), cI (af g).1 2, cI (af g).1 3) := by unfold tri; rw [hgo.kls]
        rw [← htg] at k146
        have hl2 := List.length_filter_le (fun t => decide (t ≠ tri (af g))) T1
        exact ⟨xs.length - (i + 1), by omega, i + 1, now', w', _, cls', t', st', _, _, by simp [hnow'], rfl, by omega, by omega, ⟨ok', (ps.ca.exp now').pop e2 e3, hlen', (htk.pop (ps.ca.exp now') e2 e3).mono (by omega), h6', w6', by omega⟩, ain1 k146.at2.drop.at2.drop.at2.drop⟩
end Go.Proofs.Ytdncenepmkbolaa
