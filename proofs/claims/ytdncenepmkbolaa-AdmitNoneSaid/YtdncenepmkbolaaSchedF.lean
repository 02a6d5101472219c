/-
  Classes: new ones; the law's requests.
-/
import Derived.Test.YtdncenepmkbolaaSchedE
namespace Go.Proofs.Ytdncenepmkbolaa
open Go Go.Abs Go.Abs.S Go.Abs.W
set_option maxRecDepth 10000
set_option maxHeartbeats 2000000
theorem len_sl (b o l c : Nat) : lenS (.sl b o l c) = some l := rfl
def qrows (qs : List Int) : List (List AV) := qs.map fun q => [.int .i64 q]
section
variable {h0 h : Go.Abs.H} {L : List Ch} {n N b : Nat} {qs : List Int}
theorem q_idx {i : Nat} {q : Int} (hi : qs[i]? = some q) : idxS 1 (.sl b 0 qs.length qs.length) (i : Int) = some (b, i * 1) ∧ cellG (i * 1) (some (.rows 1 (qrows qs) false none none)) = some (.int .i64 q) := by
  have hl := (List.getElem?_eq_some_iff.1 hi).1
  refine ⟨by rw [idx_sl (by omega) (by omega)]; simp, ?_⟩
  rw [cellG_rows, Nat.mul_one, Nat.mod_one, Nat.div_one, nth_eq]
  unfold qrows
  rw [List.getElem?_map, hi]; rfl
/-- fresh classes -/
def fresh (cls : List Cl) (qs : List Int) : Prop := cls.map (·.q) = qs ∧ ∀ c ∈ cls, c.cr = 0 ∧ c.sv = 0 ∧ c.qs = []
theorem s_new (hn : 40 ≤ n) (k : Hs h0 (Cell b (.rows 1 (qrows qs) false none none) :: L) h) (h1 : 1 ≤ qs.length ∧ qs.length ≤ 4) (hq : ∀ q ∈ qs, 96 ≤ q ∧ q ≤ 65536) (hN : 1 ≤ N ∧ N ≤ 16) :
    ∃ s h', callX env sums n 30 [.sl b 0 qs.length qs.length, .int .i64 N] h = some (.tup [.ptr s 0, .int .i64 0], h') ∧ ∃ v cls, fresh cls qs ∧ Hs h0 (SL s v N cls 0 false (Cell b (.rows 1 (qrows qs) false none none) :: L)) h' := by
  obtain ⟨n, rfl⟩ : ∃ k, n = k + 1 := ⟨n - 1, by omega⟩
  suffices hh : W.Spec env sums (n + 1) 30 [.sl b 0 qs.length qs.length, .int .i64 N] h (fun a h' => ∃ s, a = .tup [.ptr s 0, .int .i64 0] ∧ ∃ v cls, fresh cls qs ∧ Hs h0 (SL s v N cls 0 false (Cell b (.rows 1 (qrows qs) false none none) :: L)) h') by
    obtain ⟨a, h', e, s, rfl, q⟩ := hh; exact ⟨s, h', e, q⟩
  have c1 : ¬ (qs.length : Int) < 1 := by omega
  have c2 : ¬ 4 < (qs.length : Int) := by omega
  have c3 : ¬ (N : Int) < 1 := by omega
  have c4 : ¬ 16 < (N : Int) := by omega
  refine spec_trN [.v (.sl b 0 qs.length qs.length), .int .i64 N] rfl ft30 (by kernel_rfl) (tn30 ..) ?_
  simp (disch := (first | omega | assumption | rfl | (simp only [hn_new, hn_put, skip_n]; omega))) only [go_sem, len_sl]
  have k1 := (k.new (.rows 3 [[.nils, .int .i64 0, .bool false]] false none none)).at2' fun k => k.nil 4
  generalize hs : h.n = s at k1 ⊢
  refine ⟨fun l m h => ∃ (i : Nat) (v : AV) (cls : List Cl), l = [.int .i64 i] ∧ m = qs.length - i ∧ i ≤ qs.length ∧ fresh cls (qs.take i) ∧ Hs h0 (SL s v N cls 0 false (Cell b (.rows 1 (qrows qs) false none none) :: L)) h, ⟨qs.length, by omega, 0, .nils, [], rfl, by omega, by omega, ⟨by simp, by simp⟩, k1⟩, ?_⟩
  intro n7 m8 h9 ⟨i, v, cls, e, hm, hi, hf, k9⟩
  cases e; subst hm
  by_cases hlt : (i : Int) < qs.length
  · obtain ⟨q, hqi⟩ : ∃ q, qs[i]? = some q := ⟨qs[i], List.getElem?_eq_getElem (by omega)⟩
    obtain ⟨q1, q2⟩ := hq q (List.mem_of_getElem? hqi)
    obtain ⟨u1, u2⟩ := q_idx (b := b) hqi
    have gq := (sl_out k9).get
    have d1 : ¬ q < 96 := by omega
    have d2 : ¬ 65536 < q := by omega
    simp (disch := (first | omega | assumption | rfl | (simp only [hn_new, hn_put, skip_n]; omega))) only [go_sem, u1, gq, u2]
    refine on2_exb (g := fun r : Nat => .tup [.ptr r 0, .int .i64 0]) (ring_new (by omega) k9 hN.1 (by omega)) fun r h14 k14 => ?_
    have gs := k14.at2.get
    have kn := k14.at2.at3.new (.rows 4 [({ r := r, q := q, cr := 0, sv := 0, qs := [] } : Cl).row] false none none)
    have hclen : cls.length = i := by have := congrArg List.length hf.1; simpa [List.length_take, Nat.min_eq_left hi] using this
    obtain ⟨v', h22, a1, a2, a3⟩ := kn.at2.app (by omega) 32 (rows_one kn.get (by omega) 1) (by simp; omega) (by simp; omega)
    have gs2 := a2.at3.get
    have k3 := a2.at3.put (.rows 3 [[v', .int .i64 0, .bool false]] false none none)
    have a1' : appendOp (h14.new (Blk.rows 4 [[.ptr r 0, .int .i64 q, .int .i64 0, .int .i64 0]] false none none)) 4 32 v (.sl h14.n 0 1 1) = some (v', h22) := a1
    simp (disch := (first | omega | assumption | rfl | (simp only [hn_new, hn_put, skip_n]; omega))) only [go_sem, gs, show AV.one (.ptr r 0) = true from rfl, a1', a2.one, gs2]
    refine ⟨qs.length - (i + 1), by omega, i + 1, v', cls ++ [{ r := r, q := q, cr := 0, sv := 0, qs := [] }], by simp, rfl, by omega, ⟨?_, ?_⟩, ?_⟩
    · rw [List.map_append, hf.1, List.take_add_one, hqi]; rfl
    · intro c hc
      rcases List.mem_append.1 hc with hc | hc
      · exact hf.2 c hc
      · rw [List.mem_singleton] at hc; subst hc; exact ⟨rfl, rfl, rfl⟩
    · have k4 := k3.at3.drop
      have e : rings N (cls ++ [{ r := r, q := q, cr := 0, sv := 0, qs := [] }]) ++ Cell b (.rows 1 (qrows qs) false none none) :: L = rings N cls ++ RingC r N [] :: Cell b (.rows 1 (qrows qs) false none none) :: L := by
        simp [rings]
      have er : (cls ++ [({ r := r, q := q, cr := 0, sv := 0, qs := [] } : Cl)]).map Cl.row = cls.map Cl.row ++ [({ r := r, q := q, cr := 0, sv := 0, qs := [] } : Cl).row] := by simp
      show Hs h0 (ScC s v' 0 false :: LsC 4 v' _ :: (_ ++ _)) _
      rw [e, er]
      exact k4.perm ((List.perm_middle.symm.cons _).cons _)
  · have hie : i = qs.length := by omega
    subst hie
    simp (disch := (first | omega | assumption | rfl | (simp only [hn_new, hn_put, skip_n]; omega))) only [go_sem, AV.noTup]
    rw [List.take_length] at hf
    exact ⟨s, rfl, v, cls, hf, k9⟩

/-! requests -/
def zp13 : List AV := [.int .i64 0, .str [], .int .i64 0, .int .i64 0, .int .i64 0, .int .i64 0, .int .i64 0, .int .i64 0, .int .i64 0, .str [], .str [], .int .i64 0, .int .i64 0]
/-- a request: its class, number, deadline, key, so many bytes -/
def req (c s d : Int) (key val : List UInt8) : Fr := ⟨[.int .i64 1, .int .i64 0, .int .i64 0, .int .i64 s, .int .i64 0, .int .i64 c, .int .i64 d, .int .i64 2, .str key, .str val, .int .i64 0] ++ zp13, .nils, [.int .i64 0, .int .i64 0, .int .i64 0, .int .i64 0], rfl, rfl, .inl rfl, by simp [zp13, sameL, sameV]⟩
theorem bytes_rep (l : Nat) : bytesOf (List.replicate l [AV.int .u8 0]) = some (List.replicate l 0) := by
  induction l with
  | zero => rfl
  | succ l ih => rw [List.replicate_succ, bytesOf_cons, ih]; rfl
theorem str_rep {h : Go.Abs.H} {b l : Nat} (hb : h.get b = some (.rows 1 (List.replicate l [.int .u8 0]) false none none)) : strOf h (.sl b 0 l l) = some (.str (List.replicate l 0)) := by
  have hr : rowsOf h 1 (.sl b 0 l l) = some (List.replicate l [.int .u8 0]) :=
    rows_sl (h := h) (rs := List.replicate l [.int .u8 0]) (.inr ⟨b, 0, List.replicate l [.int .u8 0], false, none, none, hb, by omega, .inl ⟨l, by simp⟩, fun i _ => by simp⟩) (by omega)
  simp only [strOf, hr, bytes_rep]
theorem put_y (hn : 1 ≤ n) (c s : Int) {z : Nat} (hz : z ≤ 64) : ∃ h', callX env sums n 37 [.int .i64 c, .int .i64 (17 + z), .int .i64 s] h = some (.agg (req c s 9 [107] (List.replicate z 0)).cs, h') ∧ Keep h h' [] := by
  obtain ⟨n, rfl⟩ : ∃ k, n = k + 1 := ⟨n - 1, by omega⟩
  suffices hh : W.Spec env sums (n + 1) 37 [.int .i64 c, .int .i64 (17 + z), .int .i64 s] h (fun a h' => a = .agg (req c s 9 [107] (List.replicate z 0)).cs ∧ Keep h h' []) by
    obtain ⟨a, h', e, rfl, q⟩ := hh; exact ⟨h', e, q⟩
  have e1 : (17 : Int) + z - 17 = z := by omega
  have e2 : max (z : Int) 0 = z := by omega
  have hmk : mkS 1 (z : Int) (z : Int) = some (z, z) := by simp only [mkS, natOf_ofNat, ble_t (Nat.le_refl z), ble_t (show z * 1 ≤ 1099511627776 by omega), ble_t (show z ≤ 1099511627776 by omega)]
  have hb : ((h.new (Blk.rows 29 [zeroC] false none none)).new (.rows 1 (List.replicate z [.int .u8 0]) false none none)).get (h.n + 1) = some (.rows 1 (List.replicate z [.int .u8 0]) false none none) := get_new_same _ _
  have hst := str_rep hb
  have hbz : ((h.new (Blk.rows 29 [zeroC] false none none)).new (.rows 1 (List.replicate z [.int .u8 0]) false none none)).get h.n = some (Blk.rows 29 [zeroC] false none none) := by
    rw [get_new_ne _ _ _ (by rw [hn_new]; omega), get_new_same]
  have ov4 : overS 4 [.int .i64 2, .str [OfNat.ofNat 107], .str (List.replicate z 0), .int .i64 0] 7 [.int .i64 1, .int .i64 0, .int .i64 0, .int .i64 s, .int .i64 0, .int .i64 c, .int .i64 9, .int .i64 0, .str [], .str [], .int .i64 0, .int .i64 0, .str [], .int .i64 0, .int .i64 0, .int .i64 0, .int .i64 0, .int .i64 0, .int .i64 0, .int .i64 0, .str [], .str [], .int .i64 0, .int .i64 0, .nils, .int .i64 0, .int .i64 0, .int .i64 0, .int .i64 0] = some (req c s 9 [107] (List.replicate z 0)).cs := rfl
  refine spec_trN [.int .i64 c, .int .i64 (17 + z), .int .i64 s] rfl ft37 (by kernel_rfl) (tn37 ..) ?_
  have ovf : over (req c s 9 [107] (List.replicate z 0)).cs zeroC = some (req c s 9 [107] (List.replicate z 0)).cs := over_full (req c s 9 [107] (List.replicate z 0)).len
  simp (disch := (first | omega | assumption | rfl | (simp only [hn_new, hn_put, skip_n]; omega))) only [go_sem, e1, e2, hmk, hst, ov4, (req c s 9 [107] (List.replicate z 0)).len, hbz, ovf]
  (repeat' first | exact (Keep.refl h _) | refine Keep.skip ?_ _ | refine Keep.new ?_ _ | refine Keep.put ?_ (.inl (by first | omega | (simp only [hn_new, hn_put, skip_n]; omega))) _)
abbrev key16 : List UInt8 := [48, 49, 50, 51, 52, 53, 54, 55, 56, 57, 97, 98, 99, 100, 101, 102]
theorem whole_y (hn : 2 ≤ n) (c s : Int) : ∃ h', callX env sums n 32 [.int .i64 c, .int .i64 s] h = some (.agg (req c s 9 key16 (List.replicate 64 0)).cs, h') ∧ Keep h h' [] := by
  obtain ⟨n, rfl⟩ : ∃ k, n = k + 1 := ⟨n - 1, by omega⟩
  suffices hh : W.Spec env sums (n + 1) 32 [.int .i64 c, .int .i64 s] h (fun a h' => a = .agg (req c s 9 key16 (List.replicate 64 0)).cs ∧ Keep h h' []) by
    obtain ⟨a, h', e, rfl, q⟩ := hh; exact ⟨h', e, q⟩
  refine spec_trN [.int .i64 c, .int .i64 s] rfl ft32 (by kernel_rfl) (tn32 ..) ?_
  simp (disch := (first | omega | assumption | rfl | (simp only [hn_new, hn_put, skip_n]; omega))) only [go_sem]
  refine on2_ex (put_y (n := n) (by omega) c s (z := 64) (by omega)) fun h3 kp => ?_
  have kp : Keep (h.new (Blk.rows 29 [zeroC] false none none)) h3 [] := kp
  have k3 := ((Keep.refl h []).new (.rows 29 [zeroC] false none none)).trans kp
  have hn1 : (h.new (Blk.rows 29 [zeroC] false none none)).n = h.n + 1 := rfl
  have g0 : h3.get h.n = some (.rows 29 [zeroC] false none none) := by rw [kp.2 h.n (by omega) (by simp)]; exact get_new_same _ _
  have hle := kp.1
  have hov : atN (over [.str [OfNat.ofNat 48, OfNat.ofNat 49, OfNat.ofNat 50, OfNat.ofNat 51, OfNat.ofNat 52, OfNat.ofNat 53, OfNat.ofNat 54, OfNat.ofNat 55, OfNat.ofNat 56, OfNat.ofNat 57, OfNat.ofNat 97, OfNat.ofNat 98, OfNat.ofNat 99, OfNat.ofNat 100, OfNat.ofNat 101, OfNat.ofNat 102]]) 8 (req c s 9 [107] (List.replicate 64 0)).cs = some (req c s 9 key16 (List.replicate 64 0)).cs := rfl
  have ov1 : over (req c s 9 [107] (List.replicate 64 0)).cs zeroC = some (req c s 9 [107] (List.replicate 64 0)).cs := over_full (req c s 9 [107] (List.replicate 64 0)).len
  have ov2 : over (req c s 9 key16 (List.replicate 64 0)).cs zeroC = some (req c s 9 key16 (List.replicate 64 0)).cs := over_full (req c s 9 key16 (List.replicate 64 0)).len
  simp (disch := (first | omega | assumption | rfl | (simp only [hn_new, hn_put, skip_n]; omega))) only [go_sem, (req c s 9 [107] (List.replicate 64 0)).len, (req c s 9 key16 (List.replicate 64 0)).len, ov1, ov2, hov, g0]
  (repeat' first | exact k3 | refine Keep.skip ?_ _ | refine Keep.new ?_ _ | refine Keep.put ?_ (.inl (by first | omega | (simp only [hn_new, hn_put, skip_n]; omega))) _)
end
theorem req_op (c s d : Int) (key val : List UInt8) : opOf (af (req c s d key val)) = [.int .i64 2, .str key, .str val, .int .i64 0] := rfl
theorem req_ok {c s d : Int} {key val : List UInt8} (h1 : key ≠ []) (h2 : key.length ≤ 16) (h3 : val.length ≤ 64) : opOk (opOf (af (req c s d key val))) :=
  ⟨2, key, val, 0, rfl, by omega, by omega, h1, by omega, by omega, .inl rfl, .inr (.inl rfl), h2, h3⟩
end Go.Proofs.Ytdncenepmkbolaa
