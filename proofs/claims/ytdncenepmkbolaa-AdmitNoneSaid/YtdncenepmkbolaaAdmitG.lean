/-
  Who may wait: a call is offered; the next one; all that have expired.
-/
import Derived.Test.YtdncenepmkbolaaAdmitF
import Derived.Test.YtdncenepmkbolaaSchedO
import Derived.Test.YtdncenepmkbolaaSb
namespace Go.Proofs.Ytdncenepmkbolaa
open Go Go.Abs Go.Abs.S Go.Abs.W
set_option maxRecDepth 10000
set_option maxHeartbeats 2000000
/-- a call: its client, number, try, class, deadline -/
def cal (cl s t c d : Int) : Fr := ⟨[.int .i64 1, .int .i64 0, .int .i64 cl, .int .i64 s, .int .i64 t, .int .i64 c, .int .i64 d, .int .i64 3, .str [107], .str [], .int .i64 0] ++ zp13, .nils, [.int .i64 0, .int .i64 0, .int .i64 0, .int .i64 0], rfl, rfl, .inl rfl, by simp [zp13, sameL, sameV]⟩
/-- what is known of a call that waits -/
structure CaOk (cl : Int) (i : Nat) (a : AF) : Prop where
  ex : ∃ d, a = af (cal (cI a.1 2) (cI a.1 3) (cI a.1 4) i d)
  r2 : 0 ≤ cI a.1 2 ∧ cI a.1 2 < cl
  r3 : 1 ≤ cI a.1 3 ∧ cI a.1 3 ≤ 1099511627776
  r4 : 1 ≤ cI a.1 4 ∧ cI a.1 4 ≤ 1099511627776
section
variable {h h0 : Go.Abs.H} {n a s k i : Nat} {L : List Ch} {cl q : Int} {bs : List (Int × Int)} {ws : List Int} {p : Int × Int} {b : AF}
theorem CaOk.c2 (k : CaOk cl i b) : nth b.1 2 = some (.int .i64 (cI b.1 2)) := by obtain ⟨d, e⟩ := k.ex; rw [e]; rfl
theorem CaOk.c3 (k : CaOk cl i b) : nth b.1 3 = some (.int .i64 (cI b.1 3)) := by obtain ⟨d, e⟩ := k.ex; rw [e]; rfl
theorem CaOk.c4 (k : CaOk cl i b) : nth b.1 4 = some (.int .i64 (cI b.1 4)) := by obtain ⟨d, e⟩ := k.ex; rw [e]; rfl
theorem CaOk.c5 (k : CaOk cl i b) : nth b.1 5 = some (.int .i64 i) := by obtain ⟨d, e⟩ := k.ex; rw [e]; rfl
theorem CaOk.c6 (k : CaOk cl i b) : nth b.1 6 = some (.int .i64 (cI b.1 6)) := by obtain ⟨d, e⟩ := k.ex; rw [e]; rfl
theorem CaOk.aok (k : CaOk cl i b) : AOk b := ⟨k.c3, by rw [k.c5]; obtain ⟨d, e⟩ := k.ex; rw [e]; rfl, k.c6⟩
theorem CaOk.op (k : CaOk cl i b) : opOk (opOf b) := by
  obtain ⟨d, e⟩ := k.ex
  rw [e]
  exact ⟨3, [107], [], 0, rfl, by omega, by omega, by simp, by omega, by omega, .inl rfl, .inl rfl, by simp, by simp⟩
theorem call_ok (hn : 1 ≤ n) (c s t d : Int) (h : Go.Abs.H) : ∃ h', callX env sums n 53 [.int .i64 c, .int .i64 s, .int .i64 t, .int .i64 d] h = some (.agg (cal c s t 0 d).cs, h') ∧ Keep h h' [] := by
  obtain ⟨n, rfl⟩ : ∃ k, n = k + 1 := ⟨n - 1, by omega⟩
  suffices hh : W.Spec env sums (n + 1) 53 [.int .i64 c, .int .i64 s, .int .i64 t, .int .i64 d] h (fun a h' => a = .agg (cal c s t 0 d).cs ∧ Keep h h' []) by
    obtain ⟨a, h', e, rfl, q⟩ := hh; exact ⟨h', e, q⟩
  have ov4 : overS 4 [.int .i64 3, .str [OfNat.ofNat 107], .str [], .int .i64 0] 7 [.int .i64 1, .int .i64 0, .int .i64 c, .int .i64 s, .int .i64 t, .int .i64 0, .int .i64 d, .int .i64 0, .str [], .str [], .int .i64 0, .int .i64 0, .str [], .int .i64 0, .int .i64 0, .int .i64 0, .int .i64 0, .int .i64 0, .int .i64 0, .int .i64 0, .str [], .str [], .int .i64 0, .int .i64 0, .nils, .int .i64 0, .int .i64 0, .int .i64 0, .int .i64 0] = some (cal c s t 0 d).cs := rfl
  refine spec_trN [.int .i64 c, .int .i64 s, .int .i64 t, .int .i64 d] rfl ft53 (by kernel_rfl) (tn53 ..) ?_
  have ovf : over (cal c s t 0 d).cs zeroC = some (cal c s t 0 d).cs := over_full (cal c s t 0 d).len
  simp (disch := (first | omega | assumption | rfl | (simp only [hn_new, hn_put, skip_n]; omega))) only [go_sem, ov4, (cal c s t 0 d).len, ovf]
  (repeat' first | exact (Keep.refl h _) | refine Keep.skip ?_ _ | refine Keep.new ?_ _ | refine Keep.put ?_ (.inl (by first | omega | (simp only [hn_new, hn_put, skip_n]; omega))) _)
theorem reads_no (hn : 1 ≤ n) {o : List AV} (hl : o.length = 4) (h3 : nth o 0 = some (.int .i64 3)) (h : Go.Abs.H) : ∃ h', callX env sums n 86 [.agg o] h = some (.bool false, h') ∧ Keep h h' [] := by
  obtain ⟨n, rfl⟩ : ∃ k, n = k + 1 := ⟨n - 1, by omega⟩
  refine ⟨_, ?_, (Keep.refl h _).new (.rows 4 [o] false none none)⟩
  have g0 : cellG 0 ((h.new (.rows 4 [o] false none none)).get h.n) = some (.int .i64 3) := by rw [get_new_same, cellG_one _ _ _ _ _ _ (by omega) (by omega), h3]
  refine spec_eq (spec_trN [.agg o] rfl ft86 (by kernel_rfl) (tn86 ..) ?_)
  simp (disch := (first | omega | assumption | rfl | (simp only [hn_new, hn_put, skip_n]; omega))) only [go_sem, hl, g0, h3]
theorem fr_op' (f : Fr) : loadG 7 4 (some (.rows 29 [f.cs] false none none)) = some (opOf (af f)) := by
  rw [loadG_part _ _ _ _ _ _ _ (by omega) (by omega)]; exact fr_op f
theorem fr_cell (f : Fr) {j : Nat} {x : AV} (hj : j < 24) (e : nth (af f).1 j = some x) : cellG j (some (.rows 29 [f.cs] false none none)) = some x := by
  rw [cellG_one _ _ _ _ _ _ (by omega) (by omega), fr_nth f hj, e]
theorem adm_may (hn : 4 ≤ n) (k : Hs h0 (AdC a s cl q bs ws :: L) h) (hc : 1 ≤ cl ∧ cl ≤ 6) (hq : 1 ≤ q ∧ q ≤ 4) (f : Fr) (hf : CaOk cl i (af f)) (hi : (i : Int) < q) (hd : 0 ≤ cI (af f).1 6 ∧ cI (af f).1 6 ≤ 1099511627776) :
    ∃ h', callX env sums n 61 [.ptr a 0, .agg f.cs] h = some (.bool true, h') ∧ Keep h h' [] := by
  obtain ⟨n, rfl⟩ : ∃ k, n = k + 1 := ⟨n - 1, by omega⟩
  suffices hh : W.Spec env sums (n + 1) 61 [.ptr a 0, .agg f.cs] h (fun r h' => r = .bool true ∧ Keep h h' []) by
    obtain ⟨a, h', e, rfl, q⟩ := hh; exact ⟨h', e, q⟩
  have kx := ((Hs.start h).new (.rows 29 [f.cs] false none none)).more ((Keep.refl _ _).skip 46)
  have k3 := (k.more ((Keep.refl h _).new (.rows 29 [f.cs] false none none))).more ((Keep.refl _ _).skip 46)
  refine spec_trN [.ptr a 0, .agg f.cs] rfl ft61 (by kernel_rfl) (tn61 ..) ?_
  refine ⟨by rw [lenN_eq]; exact f.len, ?_⟩
  rw [show ∀ K, (stdN env (callX env sums n) n).new h (.rows 29 [f.cs] false none none) K = K h.n (h.new (.rows 29 [f.cs] false none none)) from fun _ => rfl]
  rw [show ∀ K, (stdN env (callX env sums n) n).skip (h.new (.rows 29 [f.cs] false none none)) 46 K = K (h.new (.rows 29 [f.cs] false none none)).n ((h.new (.rows 29 [f.cs] false none none)).skip 46) from fun _ => rfl]
  generalize (h.new (.rows 29 [f.cs] false none none)).skip 46 = HH at kx k3 ⊢
  have kk : ∀ {H : Go.Abs.H} {L : List Ch}, Hs h L H → Keep h H [] := fun k => ⟨k.ext.1, fun b hb _ => k.ext.2 b hb⟩
  obtain ⟨d, e⟩ := hf.ex
  have g0 : cellG 0 (HH.get h.n) = some (.int .i64 1) := by rw [kx.get]; exact fr_cell f (by omega) (by rw [e]; rfl)
  have g2 : cellG 2 (HH.get h.n) = some (.int .i64 (cI (af f).1 2)) := by rw [kx.get]; exact fr_cell f (by omega) hf.c2
  have g3 : cellG 3 (HH.get h.n) = some (.int .i64 (cI (af f).1 3)) := by rw [kx.get]; exact fr_cell f (by omega) hf.c3
  have g4 : cellG 4 (HH.get h.n) = some (.int .i64 (cI (af f).1 4)) := by rw [kx.get]; exact fr_cell f (by omega) hf.c4
  have g5 : cellG 5 (HH.get h.n) = some (.int .i64 i) := by rw [kx.get]; exact fr_cell f (by omega) hf.c5
  have g6 : cellG 6 (HH.get h.n) = some (.int .i64 (cI (af f).1 6)) := by rw [kx.get]; exact fr_cell f (by omega) hf.c6
  have gq : cellG 2 (HH.get a) = some (.int .i64 q) := by rw [k3.get, cellG_one _ _ _ _ _ _ (by omega) (by omega)]; rfl
  have l7 : loadG 7 4 (HH.get h.n) = some (opOf (af f)) := by rw [kx.get]; exact fr_op' f
  have d1 : decide ((0 ≤ cI (af f).1 2 ∧ cI (af f).1 2 ≤ cl - 1) ∧ (1 ≤ cI (af f).1 3 ∧ cI (af f).1 3 ≤ 1099511627776) ∧ (1 ≤ cI (af f).1 4 ∧ cI (af f).1 4 ≤ 1099511627776)) = true := decide_eq_true ⟨⟨hf.r2.1, by have := hf.r2.2; omega⟩, hf.r3, hf.r4⟩
  have d2 : decide (0 ≤ (i : Int) ∧ (i : Int) ≤ q - 1) = true := decide_eq_true (by omega)
  have d3 : decide (0 ≤ cI (af f).1 6 ∧ cI (af f).1 6 ≤ 1099511627776) = true := decide_eq_true hd
  simp (disch := (first | omega | assumption | rfl | (simp only [hn_new, hn_put, skip_n]; omega))) only [go_sem, adm_none (n := n) (by omega) k3, g0, g2, g3, g4, adm_known (n := n) (by omega) k3 hc, d1, g5, gq, within_ok (n := n) (by omega), d2, g6, d3, l7]
  refine on2_ex (check_yes (by omega) hf.op) fun h25 kp => ?_
  have kx2 := kx.more kp
  have l7' : loadG 7 4 (h25.get h.n) = some (opOf (af f)) := by rw [kx2.get]; exact fr_op' f
  simp (disch := (first | omega | assumption | rfl | (simp only [hn_new, hn_put, skip_n]; omega))) only [go_sem, l7']
  refine on2_ex (reads_no (by omega) (by rw [e]; rfl) (by rw [e]; rfl) h25) fun h29 kp2 => ?_
  simp (disch := (first | omega | assumption | rfl | (simp only [hn_new, hn_put, skip_n]; omega))) only [go_sem]
  exact kk (kx2.more kp2)
end
end Go.Proofs.Ytdncenepmkbolaa
