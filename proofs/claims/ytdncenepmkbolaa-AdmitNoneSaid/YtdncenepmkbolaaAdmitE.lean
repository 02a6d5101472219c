/-
  Who may wait: a new one.
-/
import Derived.Test.YtdncenepmkbolaaAdmitB
import Derived.Test.YtdncenepmkbolaaAdmitD
namespace Go.Proofs.Ytdncenepmkbolaa
open Go Go.Abs Go.Abs.S Go.Abs.W
set_option maxRecDepth 10000
set_option maxHeartbeats 2000000
section
variable {h0 h : Go.Abs.H} {L : List Ch} {n N : Nat} {qs : List Int} {v vq : AV}
theorem s_newL (hn : 40 ≤ n) (k : Hs h0 (LsC 1 vq (qrows qs) :: L) h) (h1 : 1 ≤ qs.length ∧ qs.length ≤ 4) (hq : ∀ q ∈ qs, 96 ≤ q ∧ q ≤ 65536) (hN : 1 ≤ N ∧ N ≤ 16) :
    ∃ s h', callX env sums n 30 [vq, .int .i64 N] h = some (.tup [.ptr s 0, .int .i64 0], h') ∧ ∃ v cls, fresh cls qs ∧ Hs h0 (SL s v N cls 0 false (LsC 1 vq (qrows qs) :: L)) h' := by
  obtain ⟨n, rfl⟩ : ∃ k, n = k + 1 := ⟨n - 1, by omega⟩
  suffices hh : W.Spec env sums (n + 1) 30 [vq, .int .i64 N] h (fun a h' => ∃ s, a = .tup [.ptr s 0, .int .i64 0] ∧ ∃ v cls, fresh cls qs ∧ Hs h0 (SL s v N cls 0 false (LsC 1 vq (qrows qs) :: L)) h') by
    obtain ⟨a, h', e, s, rfl, q⟩ := hh; exact ⟨s, h', e, q⟩
  have sl0 : lenS vq = some qs.length := by have := k.sl.len; rwa [qrows_len] at this
  have c1 : ¬ (qs.length : Int) < 1 := by omega
  have c2 : ¬ 4 < (qs.length : Int) := by omega
  have c3 : ¬ (N : Int) < 1 := by omega
  have c4 : ¬ 16 < (N : Int) := by omega
  refine spec_trN [.v vq, .int .i64 N] rfl ft30 (by kernel_rfl) (tn30 ..) ?_
  simp (disch := (first | omega | assumption | rfl | (simp only [hn_new, hn_put, skip_n]; omega))) only [go_sem, sl0]
  have k1 := (k.new (.rows 3 [[.nils, .int .i64 0, .bool false]] false none none)).at2' fun k => k.nil 4
  generalize hs : h.n = s at k1 ⊢
  refine ⟨fun l m h => ∃ (i : Nat) (v : AV) (cls : List Cl), l = [.int .i64 i] ∧ m = qs.length - i ∧ i ≤ qs.length ∧ fresh cls (qs.take i) ∧ Hs h0 (SL s v N cls 0 false (LsC 1 vq (qrows qs) :: L)) h, ⟨qs.length, by omega, 0, .nils, [], rfl, by omega, by omega, ⟨by simp, by simp⟩, k1⟩, ?_⟩
  intro n7 m8 h9 ⟨i, v, cls, e, hm, hi, hf, k9⟩
  cases e; subst hm
  by_cases hlt : (i : Int) < qs.length
  · obtain ⟨q, hqi⟩ : ∃ q, qs[i]? = some q := ⟨qs[i], List.getElem?_eq_getElem (by omega)⟩
    obtain ⟨q1, q2⟩ := hq q (List.mem_of_getElem? hqi)
    obtain ⟨bq, oq, u1, _, u3, _⟩ := (sl_out k9).sl.idx (qrows_get hqi)
    have u2 : cellG oq (h9.get bq) = some (.int .i64 q) := by have := u3 0 (by omega); rwa [Nat.add_zero] at this
    have d1 : ¬ q < 96 := by omega
    have d2 : ¬ 65536 < q := by omega
    simp (disch := (first | omega | assumption | rfl | (simp only [hn_new, hn_put, skip_n]; omega))) only [go_sem, u1, u2]
    refine on2_exb (g := fun r : Nat => .tup [.ptr r 0, .int .i64 0]) (ring_new (by omega) k9 hN.1 (by omega)) fun r h14 k14 => ?_
    have gs := k14.at2.get
    have kn := k14.at2.at3.new (.rows 4 [({ r := r, q := q, cr := 0, sv := 0, qs := [] } : Cl).row] false none none)
    have hclen : cls.length = i := by have := congrArg List.length hf.1; simpa [List.length_take, Nat.min_eq_left hi] using this
    obtain ⟨v', h22, a1, a2, a3⟩ := kn.at2.app (by omega) 32 (rows_one kn.get (by omega) 1) (by simp; omega) (by simp; omega)
    have gs2 := a2.at3.get
    have k3 := a2.at3.put (.rows 3 [[v', .int .i64 0, .bool false]] false none none)
    have a1' : appendOp (h14.new (Blk.rows 4 [[.ptr r 0, .int .i64 q, .int .i64 0, .int .i64 0]] false none none)) 4 32 v (.sl h14.n 0 1 1) = some (v', h22) := a1
    simp (disch := (first | omega | assumption | rfl | (simp only [hn_new, hn_put, skip_n]; omega))) only [go_sem, gs, show AV.one (.ptr r 0) = true from rfl, a1', a2.one, gs2]
    refine ⟨qs.length - (i + 1), by omega, i + 1, v', cls ++ [{ r := r, q := q, cr := 0, sv := 0, qs := [] }], by simp, rfl, by omega, ⟨?_, ?_⟩, ?_⟩
    · rw [List.map_append, hf.1, List.take_add_one, hqi]; rfl
    · intro c hc
      rcases List.mem_append.1 hc with hc | hc
      · exact hf.2 c hc
      · rw [List.mem_singleton] at hc; subst hc; exact ⟨rfl, rfl, rfl⟩
    · have k4 := k3.at3.drop
      have e : rings N (cls ++ [{ r := r, q := q, cr := 0, sv := 0, qs := [] }]) ++ LsC 1 vq (qrows qs) :: L = rings N cls ++ RingC r N [] :: LsC 1 vq (qrows qs) :: L := by
        simp [rings]
      have er : (cls ++ [({ r := r, q := q, cr := 0, sv := 0, qs := [] } : Cl)]).map Cl.row = cls.map Cl.row ++ [({ r := r, q := q, cr := 0, sv := 0, qs := [] } : Cl).row] := by simp
      show Hs h0 (ScC s v' 0 false :: LsC 4 v' _ :: (_ ++ _)) _
      rw [e, er]
      exact k4.perm ((List.perm_middle.symm.cons _).cons _)
  · have hie : i = qs.length := by omega
    subst hie
    simp (disch := (first | omega | assumption | rfl | (simp only [hn_new, hn_put, skip_n]; omega))) only [go_sem, AV.noTup]
    rw [List.take_length] at hf
    exact ⟨s, rfl, v, cls, hf, k9⟩
theorem sl_swap' {s : Nat} {cls : List Cl} {turn : Int} {stale : Bool} {X Y : Ch} (k : Hs h0 (SL s v N cls turn stale (X :: Y :: L)) h) : Hs h0 (SL s v N cls turn stale (Y :: X :: L)) h :=
  k.perm (((List.Perm.append_left _ (List.Perm.swap _ _ _)).cons _).cons _)
theorem CutOk.keep {h' : Go.Abs.H} (k : CutOk h v qs) (hk : Keep h h' []) : CutOk h' v qs := by
  obtain ⟨w, h1, h2, h3⟩ := k
  exact ⟨w, h1, h2.keep fun b hb => hk.2 b (h3 b hb) (by simp), fun b hb => Nat.lt_of_lt_of_le (h3 b hb) hk.1⟩
theorem slis63' : slIs env.tt 63 1 = true := by kernel_rfl
theorem cut_of (k : Hs h0 (LsC 1 v (qrows qs) :: L) h) : CutOk h v qs := by
  obtain ⟨S, q, _⟩ := k.read
  obtain ⟨a, b, c1, _, c3, _, c5, _⟩ := q.1.cut slis63' (i := min qs.length 4) (by rw [qrows_len]; omega)
  refine ⟨a, ?_, ?_, c5⟩
  · rw [show min (qs.length : Int) 4 = ((min qs.length 4 : Nat) : Int) by omega]; exact c1
  · have e : (qrows qs).take (min qs.length 4) = qrows (qs.take 4) := by
      unfold qrows
      rw [← List.map_take]
      congr 1
      by_cases h4 : qs.length ≤ 4
      · rw [Nat.min_eq_left h4, List.take_length, List.take_of_length_le h4]
      · rw [Nat.min_eq_right (by omega)]
    rwa [e] at c3
theorem check_ok (hn : 1300 ≤ n) (c : C11) (hl : qs.length ≤ 1000) (hq : SlR h 1 v (qrows qs)) (bv : ∀ b, blkOf v = some b → b < h.n) (hcut : CutOk h v qs) (sv : sameV v v = true) :
    ∃ h', callX env sums n 80 [.agg (c.cs v)] h = some (.int .i64 (if qs = fitQ qs ∧ c = c.fit then 0 else 2), h') ∧ Keep h h' [] := by
  obtain ⟨n, rfl⟩ : ∃ k, n = k + 1 := ⟨n - 1, by omega⟩
  suffices hh : W.Spec env sums (n + 1) 80 [.agg (c.cs v)] h (fun a h' => a = .int .i64 (if qs = fitQ qs ∧ c = c.fit then 0 else 2) ∧ Keep h h' []) from by
    obtain ⟨a, h', e, rfl, q⟩ := hh; exact ⟨h', e, q⟩
  generalize hX : Blk.rows 12 [c.cs v] false none none = X
  have k1 := ((Hs.start h).new X).more ((Keep.refl _ _).skip 5)
  refine spec_trN [.agg (c.cs v)] rfl ft80 (by kernel_rfl) (tn80 ..) ?_
  rw [hX]
  refine ⟨rfl, ?_⟩
  rw [show ∀ K, (stdN env (callX env sums n) n).new h X K = K h.n (h.new X) from fun _ => rfl]
  rw [show ∀ K, (stdN env (callX env sums n) n).skip (h.new X) 5 K = K (h.new X).n ((h.new X).skip 5) from fun _ => rfl]
  generalize hHH : (h.new X).skip 5 = HH at k1 ⊢
  have kk : ∀ {H : Go.Abs.H} {L : List Ch}, Hs h L H → Keep h H [] := fun k => ⟨k.ext.1, fun b hb _ => k.ext.2 b hb⟩
  have l0 : loadG 0 12 (HH.get h.n) = some (c.cs v) := by rw [k1.get, ← hX, loadG_zero _ _ _ _ _ (by omega)]; rfl
  have hq1 := hq.keep (h' := HH) fun b hb => k1.ext.2 b (bv b hb)
  simp (disch := (first | omega | assumption | rfl | (simp only [hn_new, hn_put, skip_n]; omega))) only [go_sem, l0]
  refine on2_exb (g := fun v' => .agg (c.fit.cs v')) (set_fit (by omega) c hq1 (hcut.keep (kk k1))) fun v' h7 kf => ?_
  have k7 := hs_onto k1 kf
  have l7 : loadG 0 12 (h7.get h.n) = some (c.cs v) := by
    have := k7.at2.get; rw [this, ← hX, loadG_zero _ _ _ _ _ (by omega)]; rfl
  have hv7 := hq.keep (h' := h7) fun b hb => k7.ext.2 b (bv b hb)
  have hfl : (fitQ qs).length ≤ 4 := by unfold fitQ; split <;> simp; omega
  simp (disch := (first | omega | assumption | rfl | (simp only [hn_new, hn_put, skip_n]; omega))) only [go_sem]
  refine on2_ex (same_ok (by omega) c c.fit hl hv7 (fl_sl k7) (fun b hb => Nat.lt_of_lt_of_le (bv b hb) k7.ext.1) (fl_blt k7) (fl_same k7)) fun h10 kp => ?_
  by_cases hc : qs = fitQ qs ∧ c = c.fit
  · rw [decide_eq_true hc, if_pos hc]
    simp (disch := (first | omega | assumption | rfl | (simp only [hn_new, hn_put, skip_n]; omega))) only [go_sem, l7, same_cs c sv]
    exact kk (k7.more kp)
  · rw [decide_eq_false hc, if_neg hc]
    simp (disch := (first | omega | assumption | rfl | (simp only [hn_new, hn_put, skip_n]; omega))) only [go_sem, l7, same_cs c sv]
    exact kk (k7.more kp)
theorem adm_new (hn : 1400 ≤ n) (c : C11) (k : Hs h0 (LsC 1 v (qrows qs) :: L) h) (h1 : 1 ≤ qs.length ∧ qs.length ≤ 4) (hq : ∀ q ∈ qs, 96 ≤ q ∧ q ≤ 65536) (hc : c = c.fit) :
    ∃ a h', callX env sums n 50 [.agg (c.cs v)] h = some (.tup [.ptr a 0, .int .i64 0], h') ∧ ∃ s vs cls, fresh cls qs ∧ Hs h0 (AdC a s c.cli qs.length (List.replicate 6 (0, 0)) (List.replicate 6 0) :: SL s vs c.queue.toNat cls 0 false (LsC 1 v (qrows qs) :: L)) h' := by
  obtain ⟨n, rfl⟩ : ∃ k, n = k + 1 := ⟨n - 1, by omega⟩
  suffices hh : W.Spec env sums (n + 1) 50 [.agg (c.cs v)] h (fun r h' => ∃ a, r = .tup [.ptr a 0, .int .i64 0] ∧ ∃ s vs cls, fresh cls qs ∧ Hs h0 (AdC a s c.cli qs.length (List.replicate 6 (0, 0)) (List.replicate 6 0) :: SL s vs c.queue.toNat cls 0 false (LsC 1 v (qrows qs) :: L)) h') from by
    obtain ⟨r, h', e, a, rfl, q⟩ := hh; exact ⟨a, h', e, q⟩
  have hfq : qs = fitQ qs := by
    unfold fitQ
    rw [if_neg (by rintro rfl; simp at h1), List.take_of_length_le h1.2]
    have : qs.map fitN = qs.map id := List.map_congr_left fun q hqq => by
      have := hq q hqq
      unfold fitN; simp only [id]; omega
    rw [this, List.map_id]
  have hqu : 1 ≤ c.queue ∧ c.queue ≤ 16 := by rw [hc]; simp only [C11.fit]; omega
  have hqn : ((c.queue.toNat : Nat) : Int) = c.queue := by omega
  generalize hX : Blk.rows 12 [c.cs v] false none none = X
  have k1 := k.new X
  refine spec_trN [.agg (c.cs v)] rfl ft50 (by kernel_rfl) (tn50 ..) ?_
  rw [hX]
  refine ⟨rfl, ?_⟩
  rw [show ∀ K, (stdN env (callX env sums n) n).new h X K = K h.n (h.new X) from fun _ => rfl]
  generalize hHH : h.new X = HH at k1 ⊢
  generalize h.n = b0 at k1 ⊢
  have l0 : loadG 0 12 (HH.get b0) = some (c.cs v) := by rw [k1.get, ← hX, loadG_zero _ _ _ _ _ (by omega)]; rfl
  simp (disch := (first | omega | assumption | rfl | (simp only [hn_new, hn_put, skip_n]; omega))) only [go_sem, l0]
  refine on2_ex (check_ok (by omega) c (by omega) k1.at2.sl k1.at2.blt (cut_of k1.at2) k1.at2.samev) fun h4 kp => ?_
  have k4 := k1.more kp
  rw [if_pos ⟨hfq, hc⟩]
  have g3 : cellG 3 (h4.get b0) = some v := by rw [k4.get, ← hX, cellG_one _ _ _ _ _ _ (by omega) (by omega)]; rfl
  have g4 : cellG 4 (h4.get b0) = some (.int .i64 (c.queue.toNat : Nat)) := by rw [k4.get, ← hX, cellG_one _ _ _ _ _ _ (by omega) (by omega), hqn]; rfl
  simp (disch := (first | omega | assumption | rfl | (simp only [hn_new, hn_put, skip_n]; omega))) only [go_sem, g3, g4]
  refine on2_exb (g := fun s : Nat => .tup [.ptr s 0, .int .i64 0]) (s_newL (n := n) (N := c.queue.toNat) (by omega) k4.at2 h1 hq (by omega)) fun s h9 ⟨vs, cls, hf, k9⟩ => ?_
  have k9' : Hs h0 (Cell b0 X :: SL s vs c.queue.toNat cls 0 false (LsC 1 v (qrows qs) :: L)) h9 := sl_out (sl_swap' k9)
  have hvl : lenS v = some qs.length := by have := (sl_out k9).sl.len; rwa [qrows_len] at this
  have g2 : cellG 2 (h9.get b0) = some (.int .i64 c.cli) := by rw [k9'.get, ← hX, cellG_one _ _ _ _ _ _ (by omega) (by omega)]; rfl
  have g3' : cellG 3 (h9.get b0) = some v := by rw [k9'.get, ← hX, cellG_one _ _ _ _ _ _ (by omega) (by omega)]; rfl
  simp (disch := (first | omega | assumption | rfl | (simp only [hn_new, hn_put, skip_n]; omega))) only [go_sem, g2, g3', hvl, show AV.one (.ptr s 0) = true from rfl]
  exact ⟨h9.n, rfl, s, vs, cls, hf, (k9'.drop).new _⟩
end
end Go.Proofs.Ytdncenepmkbolaa
