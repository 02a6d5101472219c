/-
  'AdmitNone': where there is none; configurations as they are handed in.
-/
import Derived.Test.YtdncenepmkbolaaAdmitI
import Derived.Test.YtdncenepmkbolaaSn
namespace Go.Proofs.Ytdncenepmkbolaa
open Go Go.Abs Go.Abs.S Go.Abs.W
set_option maxRecDepth 10000
set_option maxHeartbeats 4000000
section
variable {h0 h : Go.Abs.H} {L : List Ch} {n N : Nat} {qs : List Int} {v vq : AV}
theorem s_newR (hn : 40 ≤ n) (hqr : SlR h0 1 vq (qrows qs)) (bv : ∀ b, blkOf vq = some b → b < h0.n) (h1 : 1 ≤ qs.length ∧ qs.length ≤ 4) (hq : ∀ q ∈ qs, 96 ≤ q ∧ q ≤ 65536) (hN : 1 ≤ N ∧ N ≤ 16) :
    ∃ s h', callX env sums n 30 [vq, .int .i64 N] h0 = some (.tup [.ptr s 0, .int .i64 0], h') ∧ ∃ v cls, fresh cls qs ∧ Hs h0 (SL s v N cls 0 false []) h' := by
  obtain ⟨n, rfl⟩ : ∃ k, n = k + 1 := ⟨n - 1, by omega⟩
  suffices hh : W.Spec env sums (n + 1) 30 [vq, .int .i64 N] h0 (fun a h' => ∃ s, a = .tup [.ptr s 0, .int .i64 0] ∧ ∃ v cls, fresh cls qs ∧ Hs h0 (SL s v N cls 0 false []) h') by
    obtain ⟨a, h', e, s, rfl, q⟩ := hh; exact ⟨s, h', e, q⟩
  have sl0 : lenS vq = some qs.length := by have := hqr.len; rwa [qrows_len] at this
  have c1 : ¬ (qs.length : Int) < 1 := by omega
  have c2 : ¬ 4 < (qs.length : Int) := by omega
  have c3 : ¬ (N : Int) < 1 := by omega
  have c4 : ¬ 16 < (N : Int) := by omega
  refine spec_trN [.v vq, .int .i64 N] rfl ft30 (by kernel_rfl) (tn30 ..) ?_
  simp (disch := (first | omega | assumption | rfl | (simp only [hn_new, hn_put, skip_n]; omega))) only [go_sem, sl0]
  have k1 := ((Hs.start h0).new (.rows 3 [[.nils, .int .i64 0, .bool false]] false none none)).at2' fun k => k.nil 4
  generalize hs : h0.n = s at k1 ⊢
  refine ⟨fun l m h => ∃ (i : Nat) (v : AV) (cls : List Cl), l = [.int .i64 i] ∧ m = qs.length - i ∧ i ≤ qs.length ∧ fresh cls (qs.take i) ∧ Hs h0 (SL s v N cls 0 false []) h, ⟨qs.length, by omega, 0, .nils, [], rfl, by omega, by omega, ⟨by simp, by simp⟩, k1⟩, ?_⟩
  intro n7 m8 h9 ⟨i, v, cls, e, hm, hi, hf, k9⟩
  cases e; subst hm
  by_cases hlt : (i : Int) < qs.length
  · obtain ⟨q, hqi⟩ : ∃ q, qs[i]? = some q := ⟨qs[i], List.getElem?_eq_getElem (by omega)⟩
    obtain ⟨q1, q2⟩ := hq q (List.mem_of_getElem? hqi)
    obtain ⟨bq, oq, u1, _, u3, _⟩ := (hqr.keep fun b hb => k9.ext.2 b (bv b hb)).idx (qrows_get hqi)
    have u2 : cellG oq (h9.get bq) = some (.int .i64 q) := by have := u3 0 (by omega); rwa [Nat.add_zero] at this
    have d1 : ¬ q < 96 := by omega
    have d2 : ¬ 65536 < q := by omega
    simp (disch := (first | omega | assumption | rfl | (simp only [hn_new, hn_put, skip_n]; omega))) only [go_sem, u1, u2]
    refine on2_exb (g := fun r : Nat => .tup [.ptr r 0, .int .i64 0]) (ring_new (by omega) k9 hN.1 (by omega)) fun r h14 k14 => ?_
    have gs := k14.at2.get
    have kn := k14.at2.at3.new (.rows 4 [({ r := r, q := q, cr := 0, sv := 0, qs := [] } : Cl).row] false none none)
    have hclen : cls.length = i := by have := congrArg List.length hf.1; simpa [List.length_take, Nat.min_eq_left hi] using this
    obtain ⟨v', h22, a1, a2, a3⟩ := kn.at2.app (by omega) 32 (rows_one kn.get (by omega) 1) (by simp; omega) (by simp; omega)
    have gs2 := a2.at3.get
    have k3 := a2.at3.put (.rows 3 [[v', .int .i64 0, .bool false]] false none none)
    have a1' : appendOp (h14.new (Blk.rows 4 [[.ptr r 0, .int .i64 q, .int .i64 0, .int .i64 0]] false none none)) 4 32 v (.sl h14.n 0 1 1) = some (v', h22) := a1
    simp (disch := (first | omega | assumption | rfl | (simp only [hn_new, hn_put, skip_n]; omega))) only [go_sem, gs, show AV.one (.ptr r 0) = true from rfl, a1', a2.one, gs2]
    refine ⟨qs.length - (i + 1), by omega, i + 1, v', cls ++ [{ r := r, q := q, cr := 0, sv := 0, qs := [] }], by simp, rfl, by omega, ⟨?_, ?_⟩, ?_⟩
    · rw [List.map_append, hf.1, List.take_add_one, hqi]; rfl
    · intro c hc
      rcases List.mem_append.1 hc with hc | hc
      · exact hf.2 c hc
      · rw [List.mem_singleton] at hc; subst hc; exact ⟨rfl, rfl, rfl⟩
    · have k4 := k3.at3.drop
      have e : rings N (cls ++ [{ r := r, q := q, cr := 0, sv := 0, qs := [] }]) ++ [] = rings N cls ++ RingC r N [] :: [] := by
        simp [rings]
      have er : (cls ++ [({ r := r, q := q, cr := 0, sv := 0, qs := [] } : Cl)]).map Cl.row = cls.map Cl.row ++ [({ r := r, q := q, cr := 0, sv := 0, qs := [] } : Cl).row] := by simp
      show Hs h0 (ScC s v' 0 false :: LsC 4 v' _ :: (_ ++ _)) _
      rw [e, er]
      exact k4.perm ((List.perm_middle.symm.cons _).cons _)
  · have hie : i = qs.length := by omega
    subst hie
    simp (disch := (first | omega | assumption | rfl | (simp only [hn_new, hn_put, skip_n]; omega))) only [go_sem, AV.noTup]
    rw [List.take_length] at hf
    exact ⟨s, rfl, v, cls, hf, k9⟩
theorem adm_newR (hn : 1400 ≤ n) (c : C11) (hl : qs.length ≤ 1000) (hqr : SlR h 1 v (qrows qs)) (bv : ∀ b, blkOf v = some b → b < h.n) (hcut : CutOk h v qs) (sv : sameV v v = true) :
    ∃ x h', callX env sums n 50 [.agg (c.cs v)] h = some (x, h') ∧ Keep h h' [] ∧ ((qs = fitQ qs ∧ c = c.fit → ∃ a, x = .tup [.ptr a 0, .int .i64 0]) ∧ (¬ (qs = fitQ qs ∧ c = c.fit) → x = .tup [.nilp, .int .i64 2])) := by
  obtain ⟨n, rfl⟩ : ∃ k, n = k + 1 := ⟨n - 1, by omega⟩
  suffices hh : W.Spec env sums (n + 1) 50 [.agg (c.cs v)] h (fun x h' => Keep h h' [] ∧ ((qs = fitQ qs ∧ c = c.fit → ∃ a, x = .tup [.ptr a 0, .int .i64 0]) ∧ (¬ (qs = fitQ qs ∧ c = c.fit) → x = .tup [.nilp, .int .i64 2]))) from by
    obtain ⟨r, h', e, q⟩ := hh; exact ⟨r, h', e, q⟩
  have kk : ∀ {H : Go.Abs.H} {L : List Ch}, Hs h L H → Keep h H [] := fun k => ⟨k.ext.1, fun b hb _ => k.ext.2 b hb⟩
  generalize hX : Blk.rows 12 [c.cs v] false none none = X
  have k1 := (Hs.start h).new X
  refine spec_trN [.agg (c.cs v)] rfl ft50 (by kernel_rfl) (tn50 ..) ?_
  rw [hX]
  refine ⟨rfl, ?_⟩
  rw [show ∀ K, (stdN env (callX env sums n) n).new h X K = K h.n (h.new X) from fun _ => rfl]
  generalize hHH : h.new X = HH at k1 ⊢
  generalize h.n = b0 at k1 ⊢
  have l0 : loadG 0 12 (HH.get b0) = some (c.cs v) := by rw [k1.get, ← hX, loadG_zero _ _ _ _ _ (by omega)]; rfl
  simp (disch := (first | omega | assumption | rfl | (simp only [hn_new, hn_put, skip_n]; omega))) only [go_sem, l0]
  refine on2_ex (check_ok (by omega) c hl (hqr.keep fun b hb => k1.ext.2 b (bv b hb)) (fun b hb => Nat.lt_of_lt_of_le (bv b hb) k1.ext.1) (hcut.keep (kk k1)) sv) fun h4 kp => ?_
  have k4 := k1.more kp
  by_cases hgood : qs = fitQ qs ∧ c = c.fit
  rotate_left
  · rw [if_neg hgood]
    have c2 : ¬ (2 : Int) = 0 := by omega
    simp (disch := (first | omega | assumption | rfl | (simp only [hn_new, hn_put, skip_n]; omega))) only [go_sem, c2, AV.noTup]
    exact ⟨kk k4, fun e => absurd e hgood, fun _ => trivial⟩
  rw [if_pos hgood]
  have hqu : 1 ≤ c.queue ∧ c.queue ≤ 16 := by rw [hgood.2]; simp only [C11.fit]; omega
  have hqn : ((c.queue.toNat : Nat) : Int) = c.queue := by omega
  have hfo := fitQ_ok qs
  rw [← hgood.1] at hfo
  have g3 : cellG 3 (h4.get b0) = some v := by rw [k4.get, ← hX, cellG_one _ _ _ _ _ _ (by omega) (by omega)]; rfl
  have g4 : cellG 4 (h4.get b0) = some (.int .i64 (c.queue.toNat : Nat)) := by rw [k4.get, ← hX, cellG_one _ _ _ _ _ _ (by omega) (by omega), hqn]; rfl
  simp (disch := (first | omega | assumption | rfl | (simp only [hn_new, hn_put, skip_n]; omega))) only [go_sem, g3, g4]
  refine on2_exb (g := fun s : Nat => .tup [.ptr s 0, .int .i64 0]) (s_newR (n := n) (N := c.queue.toNat) (by omega) (hqr.keep (h' := h4) fun b hb => k4.ext.2 b (bv b hb)) (fun b hb => Nat.lt_of_lt_of_le (bv b hb) k4.ext.1) hfo.1 hfo.2 (by omega)) fun s h9 ⟨vs, cls, hf, k9⟩ => ?_
  have k9' := hs_onto k4 k9
  have k9b : Hs h [Cell b0 X] h9 := Hs.of_ext (by exact k9'.ext) |> fun _ => (by
    have := k4.more (h' := h9) ⟨k9.ext.1, fun b hb _ => k9.ext.2 b hb⟩
    exact this)
  have hvl : lenS v = some qs.length := by have := hqr.len; rwa [qrows_len] at this
  have g2 : cellG 2 (h9.get b0) = some (.int .i64 c.cli) := by rw [k9b.get, ← hX, cellG_one _ _ _ _ _ _ (by omega) (by omega)]; rfl
  have g3' : cellG 3 (h9.get b0) = some v := by rw [k9b.get, ← hX, cellG_one _ _ _ _ _ _ (by omega) (by omega)]; rfl
  simp (disch := (first | omega | assumption | rfl | (simp only [hn_new, hn_put, skip_n]; omega))) only [go_sem, g2, g3', hvl, show AV.one (.ptr s 0) = true from rfl]
  exact ⟨kk (k9b.new _), fun _ => ⟨_, rfl⟩, fun e => absurd hgood e⟩
end
/-! where there is none -/
def NA (x : AV) (h : Go.Abs.H) : Prop := x = .nilp ∨ ∃ a, x = .ptr a 0 ∧ a < h.n ∧ cellG 0 (h.get a) = some .nilp
theorem NA.keep {x : AV} {h h' : Go.Abs.H} (k : NA x h) (hk : Keep h h' []) : NA x h' := by
  rcases k with rfl | ⟨a, rfl, h1, h2⟩
  · exact .inl rfl
  · exact .inr ⟨a, rfl, Nat.lt_of_lt_of_le h1 hk.1, by rw [hk.2 a h1 (by simp)]; exact h2⟩
section
variable {h : Go.Abs.H} {n : Nat} {x : AV}
theorem nn95 : binop env .eql 95 .nilp .nilp = some (.bool true) := by kernel_rfl
theorem nn64 : binop env .eql 64 .nilp .nilp = some (.bool true) := by kernel_rfl
theorem na_none (hn : 1 ≤ n) (k : NA x h) : callX env sums n 81 [x] h = some (.bool true, h) := by
  obtain ⟨n, rfl⟩ : ∃ k, n = k + 1 := ⟨n - 1, by omega⟩
  rcases k with rfl | ⟨a, rfl, h1, h2⟩
  · refine spec_eq (spec_trN [.v .nilp] rfl ft81 (by kernel_rfl) (ta81 ..) ?_)
    simp (disch := (first | omega | assumption | rfl | (simp only [hn_new, hn_put, skip_n]; omega))) only [go_sem, nn95]
  · refine spec_eq (spec_trN [.ptr a 0] rfl ft81 (by kernel_rfl) (tn81 ..) ?_)
    simp (disch := (first | omega | assumption | rfl | (simp only [hn_new, hn_put, skip_n]; omega))) only [go_sem, eqn95, nn64, h2]
theorem na_next (hn : 2 ≤ n) (k : NA x h) (now : Int) : ∃ h', callX env sums n 55 [x, .int .i64 now] h = some (.tup [.agg zeroC, .bool false, .nils], h') ∧ Keep h h' [] := by
  obtain ⟨n, rfl⟩ : ∃ k, n = k + 1 := ⟨n - 1, by omega⟩
  have kp := (Keep.refl h []).new (.rows 29 [zeroC] false none none)
  have k1 := ((Hs.start h).new (.rows 29 [zeroC] false none none))
  have ov : over zeroC zeroC = some zeroC := over_full rfl
  have gz := k1.get
  have kz := ((k1.put (.rows 29 [zeroC] false none none)).ext)
  refine ⟨(h.new (.rows 29 [zeroC] false none none)).put h.n (.rows 29 [zeroC] false none none), ?_, kz.1, fun b hb _ => kz.2 b hb⟩
  have hnn := na_none (n := n) (by omega) (k.keep kp)
  rcases k with rfl | ⟨a, rfl, h1, h2⟩
  · refine spec_eq (spec_trN [.v .nilp, .int .i64 now] rfl ft55 (by kernel_rfl) (ta55 ..) ?_)
    simp (disch := (first | omega | assumption | rfl | (simp only [hn_new, hn_put, skip_n]; omega))) only [go_sem, hnn, show zeroC.length = 29 from rfl, gz, ov, AV.noTup]
  · refine spec_eq (spec_trN [.ptr a 0, .int .i64 now] rfl ft55 (by kernel_rfl) (tn55 ..) ?_)
    simp (disch := (first | omega | assumption | rfl | (simp only [hn_new, hn_put, skip_n]; omega))) only [go_sem, hnn, show zeroC.length = 29 from rfl, gz, ov, AV.noTup]
theorem na_waits (hn : 2 ≤ n) (k : NA x h) (i : Int) : callX env sums n 57 [x, .int .i64 i] h = some (.tup [.int .i64 0, .bool false], h) := by
  obtain ⟨n, rfl⟩ : ∃ k, n = k + 1 := ⟨n - 1, by omega⟩
  have hnn := na_none (n := n) (by omega) k
  rcases k with rfl | ⟨a, rfl, h1, h2⟩
  · refine spec_eq (spec_trN [.v .nilp, .int .i64 i] rfl ft57 (by kernel_rfl) (ta57 ..) ?_)
    simp (disch := (first | omega | assumption | rfl | (simp only [hn_new, hn_put, skip_n]; omega))) only [go_sem, hnn]
  · refine spec_eq (spec_trN [.ptr a 0, .int .i64 i] rfl ft57 (by kernel_rfl) (tn57 ..) ?_)
    simp (disch := (first | omega | assumption | rfl | (simp only [hn_new, hn_put, skip_n]; omega))) only [go_sem, hnn]
theorem na_len (hn : 2 ≤ n) (k : NA x h) (i : Int) : callX env sums n 58 [x, .int .i64 i] h = some (.int .i64 0, h) := by
  obtain ⟨n, rfl⟩ : ∃ k, n = k + 1 := ⟨n - 1, by omega⟩
  have hnn := na_none (n := n) (by omega) k
  rcases k with rfl | ⟨a, rfl, h1, h2⟩
  · refine spec_eq (spec_trN [.v .nilp, .int .i64 i] rfl ft58 (by kernel_rfl) (ta58 ..) ?_)
    simp (disch := (first | omega | assumption | rfl | (simp only [hn_new, hn_put, skip_n]; omega))) only [go_sem, hnn]
  · refine spec_eq (spec_trN [.ptr a 0, .int .i64 i] rfl ft58 (by kernel_rfl) (tn58 ..) ?_)
    simp (disch := (first | omega | assumption | rfl | (simp only [hn_new, hn_put, skip_n]; omega))) only [go_sem, hnn]
theorem na_served (hn : 2 ≤ n) (k : NA x h) (i : Int) : callX env sums n 62 [x, .int .i64 i] h = some (.int .i64 0, h) := by
  obtain ⟨n, rfl⟩ : ∃ k, n = k + 1 := ⟨n - 1, by omega⟩
  have hnn := na_none (n := n) (by omega) k
  rcases k with rfl | ⟨a, rfl, h1, h2⟩
  · refine spec_eq (spec_trN [.v .nilp, .int .i64 i] rfl ft62 (by kernel_rfl) (ta62 ..) ?_)
    simp (disch := (first | omega | assumption | rfl | (simp only [hn_new, hn_put, skip_n]; omega))) only [go_sem, hnn]
  · refine spec_eq (spec_trN [.ptr a 0, .int .i64 i] rfl ft62 (by kernel_rfl) (tn62 ..) ?_)
    simp (disch := (first | omega | assumption | rfl | (simp only [hn_new, hn_put, skip_n]; omega))) only [go_sem, hnn]
theorem na_flush (hn : 2 ≤ n) (k : NA x h) : callX env sums n 59 [x] h = some (.nils, h) := by
  obtain ⟨n, rfl⟩ : ∃ k, n = k + 1 := ⟨n - 1, by omega⟩
  have hnn := na_none (n := n) (by omega) k
  rcases k with rfl | ⟨a, rfl, h1, h2⟩
  · refine spec_eq (spec_trN [.v .nilp] rfl ft59 (by kernel_rfl) (ta59 ..) ?_)
    simp (disch := (first | omega | assumption | rfl | (simp only [hn_new, hn_put, skip_n]; omega))) only [go_sem, hnn]
  · refine spec_eq (spec_trN [.ptr a 0] rfl ft59 (by kernel_rfl) (tn59 ..) ?_)
    simp (disch := (first | omega | assumption | rfl | (simp only [hn_new, hn_put, skip_n]; omega))) only [go_sem, hnn]
theorem na_copy (hn : 2 ≤ n) (k : NA x h) : callX env sums n 63 [x] h = some (.nilp, h) := by
  obtain ⟨n, rfl⟩ : ∃ k, n = k + 1 := ⟨n - 1, by omega⟩
  have hnn := na_none (n := n) (by omega) k
  rcases k with rfl | ⟨a, rfl, h1, h2⟩
  · refine spec_eq (spec_trN [.v .nilp] rfl ft63 (by kernel_rfl) (ta63 ..) ?_)
    simp (disch := (first | omega | assumption | rfl | (simp only [hn_new, hn_put, skip_n]; omega))) only [go_sem, hnn]
  · refine spec_eq (spec_trN [.ptr a 0] rfl ft63 (by kernel_rfl) (tn63 ..) ?_)
    simp (disch := (first | omega | assumption | rfl | (simp only [hn_new, hn_put, skip_n]; omega))) only [go_sem, hnn]
theorem na_bar (hn : 2 ≤ n) (k : NA x h) (i s t : Int) : callX env sums n 51 [x, .int .i64 i, .int .i64 s, .int .i64 t] h = some (.int .i64 1, h) := by
  obtain ⟨n, rfl⟩ : ∃ k, n = k + 1 := ⟨n - 1, by omega⟩
  have hnn := na_none (n := n) (by omega) k
  rcases k with rfl | ⟨a, rfl, h1, h2⟩
  · refine spec_eq (spec_trN [.v .nilp, .int .i64 i, .int .i64 s, .int .i64 t] rfl ft51 (by kernel_rfl) (ta51 ..) ?_)
    simp (disch := (first | omega | assumption | rfl | (simp only [hn_new, hn_put, skip_n]; omega))) only [go_sem, hnn]
  · refine spec_eq (spec_trN [.ptr a 0, .int .i64 i, .int .i64 s, .int .i64 t] rfl ft51 (by kernel_rfl) (tn51 ..) ?_)
    simp (disch := (first | omega | assumption | rfl | (simp only [hn_new, hn_put, skip_n]; omega))) only [go_sem, hnn]
theorem na_barred (hn : 2 ≤ n) (k : NA x h) (i s t : Int) : callX env sums n 52 [x, .int .i64 i, .int .i64 s, .int .i64 t] h = some (.bool false, h) := by
  obtain ⟨n, rfl⟩ : ∃ k, n = k + 1 := ⟨n - 1, by omega⟩
  have hnn := na_none (n := n) (by omega) k
  rcases k with rfl | ⟨a, rfl, h1, h2⟩
  · refine spec_eq (spec_trN [.v .nilp, .int .i64 i, .int .i64 s, .int .i64 t] rfl ft52 (by kernel_rfl) (ta52 ..) ?_)
    simp (disch := (first | omega | assumption | rfl | (simp only [hn_new, hn_put, skip_n]; omega))) only [go_sem, hnn]
  · refine spec_eq (spec_trN [.ptr a 0, .int .i64 i, .int .i64 s, .int .i64 t] rfl ft52 (by kernel_rfl) (tn52 ..) ?_)
    simp (disch := (first | omega | assumption | rfl | (simp only [hn_new, hn_put, skip_n]; omega))) only [go_sem, hnn]
theorem na_may (hn : 2 ≤ n) (k : NA x h) {cs : List AV} (hl : cs.length = 29) : ∃ h', callX env sums n 61 [x, .agg cs] h = some (.bool false, h') ∧ Keep h h' [] := by
  obtain ⟨n, rfl⟩ : ∃ k, n = k + 1 := ⟨n - 1, by omega⟩
  have kp := ((Keep.refl h []).new (.rows 29 [cs] false none none)).skip 46
  have hnn := na_none (n := n) (by omega) (k.keep kp)
  refine ⟨(h.new (.rows 29 [cs] false none none)).skip 46, ?_, kp⟩
  rcases k with rfl | ⟨a, rfl, h1, h2⟩
  · refine spec_eq (spec_trN [.v .nilp, .agg cs] rfl ft61 (by kernel_rfl) (ta61 ..) ?_)
    simp (disch := (first | omega | assumption | rfl | (simp only [hn_new, hn_put, skip_n]; omega))) only [go_sem, hl, hnn]
  · refine spec_eq (spec_trN [.ptr a 0, .agg cs] rfl ft61 (by kernel_rfl) (tn61 ..) ?_)
    simp (disch := (first | omega | assumption | rfl | (simp only [hn_new, hn_put, skip_n]; omega))) only [go_sem, hl, hnn]
theorem na_offer (hn : 3 ≤ n) (k : NA x h) {cs : List AV} (hl : cs.length = 29) (now : Int) : ∃ h', callX env sums n 54 [x, .agg cs, .int .i64 now] h = some (.int .i64 10, h') ∧ Keep h h' [] := by
  obtain ⟨n, rfl⟩ : ∃ k, n = k + 1 := ⟨n - 1, by omega⟩
  have kp := (Keep.refl h []).new (.rows 29 [cs] false none none)
  obtain ⟨h', e, kp2⟩ := na_may (n := n) (by omega) (k.keep kp) hl
  refine ⟨h', ?_, kp.trans kp2⟩
  have l0 : loadG 0 29 ((h.new (.rows 29 [cs] false none none)).get h.n) = some cs := by rw [get_new_same, loadG_zero _ _ _ _ _ (by omega)]; rfl
  rcases k with rfl | ⟨a, rfl, h1, h2⟩
  · refine spec_eq (spec_trN [.v .nilp, .agg cs, .int .i64 now] rfl ft54 (by kernel_rfl) (ta54 ..) ?_)
    simp (disch := (first | omega | assumption | rfl | (simp only [hn_new, hn_put, skip_n]; omega))) only [go_sem, hl, l0, e]
  · refine spec_eq (spec_trN [.ptr a 0, .agg cs, .int .i64 now] rfl ft54 (by kernel_rfl) (tn54 ..) ?_)
    simp (disch := (first | omega | assumption | rfl | (simp only [hn_new, hn_put, skip_n]; omega))) only [go_sem, hl, l0, e]
end
end Go.Proofs.Ytdncenepmkbolaa
