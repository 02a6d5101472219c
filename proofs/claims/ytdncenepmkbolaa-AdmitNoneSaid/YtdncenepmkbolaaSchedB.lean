/-
  Classes: what the small functions do.
-/
import Derived.Test.YtdncenepmkbolaaSchedA
namespace Go.Proofs.Ytdncenepmkbolaa
open Go Go.Abs Go.Abs.S Go.Abs.W
set_option maxRecDepth 10000
set_option maxHeartbeats 1000000

theorem eqn64 (b o : Nat) : binop env .eql 64 (.ptr b o) .nilp = some (.bool false) := by kernel_rfl
/-- operations that may be -/
def opOk (o : List AV) : Prop := ∃ (k : Int) (s t : List UInt8) (w : Int), o = [.int .i64 k, .str s, .str t, .int .i64 w] ∧ 1 ≤ k ∧ k ≤ 4 ∧ s ≠ [] ∧ 0 ≤ w ∧ w ≤ 4096 ∧ (w = 0 ∨ k = 4) ∧ (t = [] ∨ k = 2 ∨ k = 4) ∧ s.length ≤ 16 ∧ t.length ≤ 64
def costO (o : List AV) : Int := match o with
  | [_, .str s, .str t, _] => 16 + s.length + t.length
  | _ => 0
theorem cost_range {o : List AV} (h : opOk o) : 17 ≤ costO o ∧ costO o ≤ 96 := by
  obtain ⟨k, s, t, w, rfl, _, _, hs, _, _, _, _, h1, h2⟩ := h
  have : 0 < s.length := List.length_pos_iff.2 hs
  simp only [costO]; omega
theorem beq_no {s : List UInt8} (h : s ≠ []) : (s == []) = false := by cases s <;> first | rfl | exact absurd rfl h

abbrev ScC (s : Nat) (v : AV) (turn : Int) (stale : Bool) : Ch := Cell s (.rows 3 [[v, .int .i64 turn, .bool stale]] false none none)
abbrev SL (s : Nat) (v : AV) (N : Nat) (cls : List Cl) (turn : Int) (stale : Bool) (L : List Ch) : List Ch := ScC s v turn stale :: LsC 4 v (cls.map Cl.row) :: (rings N cls ++ L)
section
variable {h0 h : Go.Abs.H} {L : List Ch} {n s N : Nat} {v : AV} {cls : List Cl} {turn : Int} {stale : Bool} {o : List AV}
theorem valued_y (hn : 1 ≤ n) {x : Int} (hx : x = 2 ∨ x = 4) : callX env sums n 89 [.int .i64 x] h = some (.bool true, h) := by
  obtain ⟨n, rfl⟩ : ∃ k, n = k + 1 := ⟨n - 1, by omega⟩
  refine spec_eq (spec_trN [.int .i64 x] rfl ft89 (by kernel_rfl) (tn89 ..) ?_)
  rcases hx with rfl | rfl
  · simp (disch := (first | omega | assumption | rfl | (simp only [hn_new, hn_put, skip_n]; omega))) only [go_sem]
  · simp (disch := (first | omega | assumption | rfl | (simp only [hn_new, hn_put, skip_n]; omega))) only [go_sem, show ¬ (4 : Int) = 2 by omega]
theorem check_yes (hn : 2 ≤ n) (ho : opOk o) : ∃ h', callX env sums n 69 [.agg o] h = some (.int .i64 0, h') ∧ Keep h h' [] := by
  obtain ⟨n, rfl⟩ : ∃ k, n = k + 1 := ⟨n - 1, by omega⟩
  obtain ⟨k, s, t, w, rfl, a1, a2, a3, a4, a5, a6, a7, a8, a9⟩ := ho
  refine ⟨h.new (.rows 4 [[.int .i64 k, .str s, .str t, .int .i64 w]] false none none), ?_, (Keep.refl h _).new _⟩
  have c1 : ¬ k < 1 := by omega
  have c2 : ¬ 4 < k := by omega
  have c3 := beq_no a3
  have c4 : ¬ w < 0 := by omega
  have c5 : ¬ 4096 < w := by omega
  have c8 : ¬ (16 : Int) < s.length := by omega
  have c9 : ¬ (64 : Int) < t.length := by omega
  refine spec_eq (spec_trN [.agg [.int .i64 k, .str s, .str t, .int .i64 w]] rfl ft69 (by kernel_rfl) (tn69 ..) ?_)
  by_cases hw : w = 0
  · subst hw
    by_cases ht : t = []
    · subst ht
      have tt : (([] : List UInt8) == []) = true := rfl
      simp (disch := (first | omega | assumption | rfl | (simp only [hn_new, hn_put, skip_n]; omega))) only [go_sem, c3, tt]
    · have c7 := beq_no ht
      have hk : k = 2 ∨ k = 4 := by
        rcases a7 with h | h | h
        · exact absurd h ht
        · exact .inl h
        · exact .inr h
      simp (disch := (first | omega | assumption | rfl | (simp only [hn_new, hn_put, skip_n]; omega))) only [go_sem, c3, c7, valued_y (n := n) (by omega) hk]
  · have hk4 : k = 4 := by
      rcases a6 with h | h
      · exact absurd h hw
      · exact h
    subst hk4
    by_cases ht : t = []
    · subst ht
      have tt : (([] : List UInt8) == []) = true := rfl
      simp (disch := (first | omega | assumption | rfl | (simp only [hn_new, hn_put, skip_n]; omega))) only [go_sem, c3, tt]
    · have c7 := beq_no ht
      simp (disch := (first | omega | assumption | rfl | (simp only [hn_new, hn_put, skip_n]; omega))) only [go_sem, c3, c7, valued_y (n := n) (by omega) (.inr rfl)]
theorem cost_y (hn : 3 ≤ n) (ho : opOk o) : ∃ h', callX env sums n 72 [.agg o] h = some (.int .i64 (costO o), h') ∧ Keep h h' [] := by
  obtain ⟨n, rfl⟩ : ∃ k, n = k + 1 := ⟨n - 1, by omega⟩
  obtain ⟨h', e, kp⟩ := check_yes (h := h.new (.rows 4 [o] false none none)) (n := n) (by omega) ho
  have hb : h'.get h.n = some (.rows 4 [o] false none none) := by rw [kp.2 h.n (by rw [hn_new]; omega) (by simp)]; exact get_new_same _ _
  have kk : Keep h h' [] := ((Keep.refl h _).new _).trans kp
  obtain ⟨k, s, t, w, rfl, a1, a2, a3, a4, a5, a6, a7, a8, a9⟩ := ho
  refine ⟨h', ?_, kk⟩
  refine spec_eq (spec_trN [.agg [.int .i64 k, .str s, .str t, .int .i64 w]] rfl ft72 (by kernel_rfl) (tn72 ..) ?_)
  simp (disch := (first | omega | assumption | rfl | (simp only [hn_new, hn_put, skip_n]; omega))) only [go_sem, e, hb, costO]

theorem s_none (hn : 1 ≤ n) (k : Hs h0 (SL s v N cls turn stale L) h) (hc : cls ≠ []) : callX env sums n 67 [.ptr s 0] h = some (.bool false, h) := by
  obtain ⟨n, rfl⟩ : ∃ k, n = k + 1 := ⟨n - 1, by omega⟩
  have g := k.get
  have sl := k.at2.sl.len
  rw [List.length_map] at sl
  have : 0 < cls.length := List.length_pos_iff.2 hc
  have c1 : ¬ (cls.length : Int) = 0 := by omega
  refine spec_eq (spec_trN [.ptr s 0] rfl ft67 (by kernel_rfl) (tn67 ..) ?_)
  simp (disch := (first | omega | assumption | rfl | (simp only [hn_new, hn_put, skip_n]; omega))) only [go_sem, eqn64, g, sl]
theorem s_has (hn : 2 ≤ n) (k : Hs h0 (SL s v N cls turn stale L) h) (hc : cls ≠ []) (i : Int) : callX env sums n 68 [.ptr s 0, .int .i64 i] h = some (.bool (decide (0 ≤ i ∧ i < cls.length)), h) := by
  obtain ⟨n, rfl⟩ : ∃ k, n = k + 1 := ⟨n - 1, by omega⟩
  have g := k.get
  have sl := k.at2.sl.len
  rw [List.length_map] at sl
  refine spec_eq (spec_trN [.ptr s 0, .int .i64 i] rfl ft68 (by kernel_rfl) (tn68 ..) ?_)
  by_cases h1 : 0 ≤ i
  · have : decide (0 ≤ i ∧ i < (cls.length : Int)) = decide (i < (cls.length : Int)) := by simp [h1]
    rw [this]
    simp (disch := (first | omega | assumption | rfl | (simp only [hn_new, hn_put, skip_n]; omega))) only [go_sem, s_none (n := n) (by omega) k hc, g, sl]
  · have : decide (0 ≤ i ∧ i < (cls.length : Int)) = false := by simp [h1]
    rw [this]
    simp (disch := (first | omega | assumption | rfl | (simp only [hn_new, hn_put, skip_n]; omega))) only [go_sem, s_none (n := n) (by omega) k hc, g, sl]
theorem s_len (hn : 3 ≤ n) (k : Hs h0 (SL s v N cls turn stale L) h) {i : Nat} {c : Cl} (hi : cls[i]? = some c) : callX env sums n 35 [.ptr s 0, .int .i64 i] h = some (.int .i64 c.qs.length, h) := by
  obtain ⟨n, rfl⟩ : ∃ k, n = k + 1 := ⟨n - 1, by omega⟩
  have hil := (List.getElem?_eq_some_iff.1 hi).1
  have hc : cls ≠ [] := by rintro rfl; simp at hil
  have hh := s_has (n := n) (by omega) k hc (i : Int)
  rw [decide_eq_true (by omega)] at hh
  have g := k.get
  obtain ⟨b, o, e1, _, e3, _⟩ := k.at2.sl.idx (rows_get hi)
  have g0 : cellG o (h.get b) = some (.ptr c.r 0) := by have := e3 0 (by omega); rw [cellQ_some _ _ _ (by omega)] at this; exact this
  refine spec_eq (spec_trN [.ptr s 0, .int .i64 i] rfl ft35 (by kernel_rfl) (tn35 ..) ?_)
  simp (disch := (first | omega | assumption | rfl | (simp only [hn_new, hn_put, skip_n]; omega))) only [go_sem, hh, g, e1, g0, ring_len (n := n) (by omega) (ring_out hi k)]
theorem s_served (hn : 3 ≤ n) (k : Hs h0 (SL s v N cls turn stale L) h) {i : Nat} {c : Cl} (hi : cls[i]? = some c) : callX env sums n 34 [.ptr s 0, .int .i64 i] h = some (.int .i64 c.sv, h) := by
  obtain ⟨n, rfl⟩ : ∃ k, n = k + 1 := ⟨n - 1, by omega⟩
  have hil := (List.getElem?_eq_some_iff.1 hi).1
  have hc : cls ≠ [] := by rintro rfl; simp at hil
  have hh := s_has (n := n) (by omega) k hc (i : Int)
  rw [decide_eq_true (by omega)] at hh
  have g := k.get
  obtain ⟨b, o, e1, _, e3, _⟩ := k.at2.sl.idx (rows_get hi)
  have g0 : cellG (o + 3) (h.get b) = some (.int .i64 c.sv) := by have := e3 3 (by omega); rw [cellQ_some _ _ _ (by omega)] at this; exact this
  refine spec_eq (spec_trN [.ptr s 0, .int .i64 i] rfl ft34 (by kernel_rfl) (tn34 ..) ?_)
  simp (disch := (first | omega | assumption | rfl | (simp only [hn_new, hn_put, skip_n]; omega))) only [go_sem, hh, g, e1, g0]
/-- whose turn is next -/
def nextT (turn : Nat) (m : Nat) : Nat := (turn + 1) % m
theorem s_next (hn : 1 ≤ n) {t : Nat} (k : Hs h0 (SL s v N cls (t : Int) stale L) h) (hc : cls ≠ []) (ht : t < cls.length) (hm : cls.length ≤ 4) : ∃ h', callX env sums n 71 [.ptr s 0] h = some (.tup [], h') ∧ Hs h0 (SL s v N cls (nextT t cls.length : Nat) false L) h' := by
  obtain ⟨n, rfl⟩ : ∃ k, n = k + 1 := ⟨n - 1, by omega⟩
  have g := k.get
  have sl := k.at2.sl.len
  rw [List.length_map] at sl
  have : 0 < cls.length := List.length_pos_iff.2 hc
  have c1 : ¬ (cls.length : Int) = 0 := by omega
  have ht : ((t : Int) + 1).tmod (cls.length : Int) = (nextT t cls.length : Nat) := by
    rw [Int.tmod_eq_emod_of_nonneg (by omega)]; rfl
  have k1 := (k.more ((Keep.refl _ _).skip 19)).put (.rows 3 [[v, .int .i64 (nextT t cls.length : Nat), .bool stale]] false none none)
  have k2 := k1.put (.rows 3 [[v, .int .i64 (nextT t cls.length : Nat), .bool false]] false none none)
  refine ⟨_, ?_, k2⟩
  refine spec_eq (spec_trN [.ptr s 0] rfl ft71 (by kernel_rfl) (tn71 ..) ?_)
  simp (disch := (first | omega | assumption | rfl | (simp only [hn_new, hn_put, skip_n]; omega))) only [go_sem, g, sl, ht]

/-- does one class have requests? -/
theorem s_91 (hn : 2 ≤ n) {i : Nat} {c : Cl} (k : Hs h0 (SL s v N cls turn stale L) h) (hi : cls[i]? = some c) : ∃ h', callX env sums n 91 [.agg c.row] h = some (.bool (decide (0 < c.qs.length)), h') ∧ Hs h0 (SL s v N cls turn stale L) h' := by
  obtain ⟨n, rfl⟩ : ∃ k, n = k + 1 := ⟨n - 1, by omega⟩
  have k1 := k.more ((Keep.refl h []).new (.rows 4 [c.row] false none none))
  refine ⟨_, ?_, k1⟩
  have e : decide (0 < c.qs.length) = decide ((0 : Int) < c.qs.length) := by simp
  rw [e]
  refine spec_eq (spec_trN [.agg c.row] rfl ft91 (by kernel_rfl) (tn91 ..) ?_)
  simp (disch := (first | omega | assumption | rfl | (simp only [hn_new, hn_put, skip_n]; omega))) only [go_sem, c.rlen, show nth c.row 0 = some (.ptr c.r 0) from rfl, ring_len (n := n) (by omega) (ring_out hi k1)]
theorem s_94 (hn : 10 ≤ n) (k : Hs h0 (SL s v N cls turn stale L) h) (hm : cls.length ≤ 4) : ∃ (x : Int) (h' : Go.Abs.H), callX env sums n 94 [v, .fn 91 []] h = some (.int .i64 x, h') ∧ (decide (0 ≤ x) = !cls.all fun c => c.qs.isEmpty) ∧ Hs h0 (SL s v N cls turn stale L) h' := by
  obtain ⟨n, rfl⟩ : ∃ k, n = k + 1 := ⟨n - 1, by omega⟩
  suffices hh : W.Spec env sums (n + 1) 94 [v, .fn 91 []] h (fun a h' => ∃ x : Int, a = .int .i64 x ∧ (decide (0 ≤ x) = !cls.all fun c => c.qs.isEmpty) ∧ Hs h0 (SL s v N cls turn stale L) h') by
    obtain ⟨a, h', e, x, rfl, q⟩ := hh; exact ⟨x, h', e, q⟩
  have sl := k.at2.sl.len
  rw [List.length_map] at sl
  refine spec_trN [.v v, .v (.fn 91 [])] rfl ft94 (by kernel_rfl) (tn94 ..) ?_
  simp (disch := (first | omega | assumption | rfl | (simp only [hn_new, hn_put, skip_n]; omega))) only [go_sem, sl]
  refine ⟨fun l m h => ∃ i : Nat, l = [.int .i64 i] ∧ m = cls.length - i ∧ i ≤ cls.length ∧ (∀ c ∈ cls.take i, c.qs = []) ∧ Hs h0 (SL s v N cls turn stale L) h, ⟨cls.length, by omega, 0, rfl, by omega, by omega, by simp, k⟩, ?_⟩
  intro n3 m4 h5 ⟨i, e, hm', hi, hall, k5⟩
  cases e; subst hm'
  by_cases hlt : (i : Int) < cls.length
  · obtain ⟨c, hc⟩ : ∃ c, cls[i]? = some c := ⟨cls[i], List.getElem?_eq_getElem (by omega)⟩
    obtain ⟨b, o, e1, e2, _, _⟩ := k5.at2.sl.idx (rows_get hc)
    obtain ⟨h', q1, q2⟩ := s_91 (n := n) (by omega) k5 hc
    have q1' : callS (callX env sums n) (.fn 91 []) [.agg c.row] h5 = some (.bool (decide (0 < c.qs.length)), h') := q1
    by_cases hq : c.qs = []
    · rw [hq] at q1'
      have : decide (0 < ([] : List AF).length) = false := rfl
      rw [this] at q1'
      simp (disch := (first | omega | assumption | rfl | (simp only [hn_new, hn_put, skip_n]; omega))) only [go_sem, e1, e2, q1']
      refine ⟨cls.length - (i + 1), by omega, i + 1, by simp, rfl, by omega, fun x hx => ?_, q2⟩
      rw [List.take_add_one, hc] at hx
      rcases List.mem_append.1 hx with hx | hx
      · exact hall x hx
      · simp at hx; subst hx; exact hq
    · have hpos : decide (0 < c.qs.length) = true := decide_eq_true (List.length_pos_iff.2 hq)
      rw [hpos] at q1'
      simp (disch := (first | omega | assumption | rfl | (simp only [hn_new, hn_put, skip_n]; omega))) only [go_sem, e1, e2, q1']
      refine ⟨i, rfl, ?_, q2⟩
      have : (cls.all fun c => c.qs.isEmpty) = false := by
        rw [List.all_eq_false]
        exact ⟨c, List.mem_of_getElem? hc, by cases hqs : c.qs <;> simp_all⟩
      rw [this]; simp
  · simp (disch := (first | omega | assumption | rfl | (simp only [hn_new, hn_put, skip_n]; omega))) only [go_sem]
    refine ⟨-1, rfl, ?_, k5⟩
    have : (cls.all fun c => c.qs.isEmpty) = true := by
      rw [List.all_eq_true]
      intro c hc
      have := hall c (by rw [List.take_of_length_le (by omega)]; exact hc)
      simp [this]
    rw [this]; rfl
theorem s_empty (hn : 12 ≤ n) (k : Hs h0 (SL s v N cls turn stale L) h) (hm : cls.length ≤ 4) : ∃ (h' : Go.Abs.H), callX env sums n 70 [.ptr s 0] h = some (.bool (cls.all fun c => c.qs.isEmpty), h') ∧ Hs h0 (SL s v N cls turn stale L) h' := by
  obtain ⟨n, rfl⟩ : ∃ k, n = k + 1 := ⟨n - 1, by omega⟩
  obtain ⟨n, rfl⟩ : ∃ k, n = k + 1 := ⟨n - 1, by omega⟩
  obtain ⟨x, h', e, e2, q⟩ := s_94 (n := n) (by omega) k hm
  have e90 : callX env sums (n + 1) 90 [v, .fn 91 []] h = some (.bool (!cls.all fun c => c.qs.isEmpty), h') := by
    refine spec_eq (spec_trN [.v v, .v (.fn 91 [])] rfl ft90 (by kernel_rfl) (tn90 ..) ?_)
    simp (disch := (first | omega | assumption | rfl | (simp only [hn_new, hn_put, skip_n]; omega))) only [go_sem, e, e2]
  refine ⟨h', ?_, q⟩
  have g := k.get
  refine spec_eq (spec_trN [.ptr s 0] rfl ft70 (by kernel_rfl) (tn70 ..) ?_)
  simp (disch := (first | omega | assumption | rfl | (simp only [hn_new, hn_put, skip_n]; omega))) only [go_sem, g, e90, Bool.not_not]
end
end Go.Proofs.Ytdncenepmkbolaa
