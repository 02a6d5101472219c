/-
  History: calls that begin, and calls that end.
-/
import Derived.Test.YtpfgbnmeaalpdaaHistA
namespace Go.Proofs.Ytpfgbnmeaalpdaa
open Go Go.Abs Go.Abs.S Go.Abs.W
set_option maxRecDepth 10000
set_option maxHeartbeats 1000000

/-- a call that begins -/
def newRec (c s : Int) (o : List AV) (E : Int) : List AV := .int .i64 c :: .int .i64 s :: (o ++ [.int .i64 E, .int .i64 (-1), .int .i64 0, .int .i64 0, .int .i64 0, .str [], .int .i64 0, .int .i64 0])
/-- a call that ends -/
def endRec (x : List AV) (o : List AV) (E : Int) : List AV := x.take 7 ++ .int .i64 E :: o
def Lasts (rs : List (List AV)) (ls : Nat → Int) : Prop := ∀ j, j < 6 → ls j = 0 ∨ ∃ (i : Nat) (x : List AV), ls j = i + 1 ∧ rs[i]? = some x

section
variable {h0 h : Go.Abs.H} {L : List Ch} {n : Nat} {r : Nat} {E c s : Int} {v : AV} {rs : List (List AV)} {ls : Nat → Int}
/-- what a call may come to -/
def CallP (h0 : Go.Abs.H) (L : List Ch) (r : Nat) (E c s : Int) (v : AV) (rs : List (List AV)) (ls : Nat → Int) (o : List AV) (e : Int) (h' : Go.Abs.H) : Prop :=
  (e ≠ 0 ∧ Hs h0 (HiC r v E ls :: LsC 14 v rs :: L) h') ∨
   (e = 0 ∧ ∃ (j : Nat) (v' : AV), j < 6 ∧ c = j ∧ 1 ≤ s ∧ (ls j = 0 ∨ ∃ (i : Nat) (x : List AV), ls j = i + 1 ∧ rs[i]? = some x ∧ 0 ≤ cI x 7 ∧ cI x 1 < s) ∧ Hs h0 (HiC r v' (E + 1) (upd ls j (rs.length + 1)) :: LsC 14 v' (rs ++ [newRec c s o E]) :: L) h')
theorem call_ok (hn : 4 ≤ n) (k : Hs h0 (HiC r v E ls :: LsC 14 v rs :: L) h) (hr : ∀ x ∈ rs, Fits RK x) (hl : Lasts rs ls) (hE : 0 ≤ E ∧ E ≤ 1000000) (hlen : rs.length ≤ 1000) {o : List AV} (hf : Fits [.i, .s, .s, .i] o) :
    ∃ e h', callX env sums n 30 [.ptr r 0, .int .i64 c, .int .i64 s, .agg o] h = some (.int .i64 e, h') ∧ CallP h0 L r E c s v rs ls o e h' := by
  obtain ⟨n, rfl⟩ : ∃ k, n = k + 1 := ⟨n - 1, by omega⟩
  have hol := hf.length
  have hos := hf.same
  suffices hh : W.Spec env sums (n + 1) 30 [.ptr r 0, .int .i64 c, .int .i64 s, .agg o] h (fun a h' => ∃ e, a = .int .i64 e ∧ CallP h0 L r E c s v rs ls o e h') by
    obtain ⟨a, h', e, x, rfl, q⟩ := hh; exact ⟨x, h', e, q⟩
  have k1 := k.new (.rows 4 [o] false none none)
  have no : ∀ (e : Int) (h' : Go.Abs.H), e ≠ 0 → Hs h0 (Cell h.n (.rows 4 [o] false none none) :: HiC r v E ls :: LsC 14 v rs :: L) h' → ∃ x, AV.int .i64 e = .int .i64 x ∧ CallP h0 L r E c s v rs ls o x h' := fun e h' he k => ⟨e, rfl, .inl ⟨he, k.drop⟩⟩
  refine spec_trN [.ptr r 0, .int .i64 c, .int .i64 s, .agg o] rfl ft30 (by kernel_rfl) (tn30 ..) ?_
  have hol4 : o.length = 4 := hol
  simp (disch := (first | omega | assumption | rfl | (simp only [hn_new, hn_put, skip_n]; omega))) only [go_sem, hol4, hnone (n := n) (by omega) k1.at2]
  by_cases c1 : c < 0
  · simp (disch := (first | omega | assumption | rfl | (simp only [hn_new, hn_put, skip_n]; omega))) only [go_sem]; exact no _ _ (by omega) k1
  by_cases c2 : 6 ≤ c
  · simp (disch := (first | omega | assumption | rfl | (simp only [hn_new, hn_put, skip_n]; omega))) only [go_sem]; exact no _ _ (by omega) k1
  by_cases c3 : s < 1
  · simp (disch := (first | omega | assumption | rfl | (simp only [hn_new, hn_put, skip_n]; omega))) only [go_sem]; exact no _ _ (by omega) k1
  simp (disch := (first | omega | assumption | rfl | (simp only [hn_new, hn_put, skip_n]; omega))) only [go_sem]
  refine on2_exb (check_ok (by omega) hf) fun e h7 kp => ?_
  have k2 := k1.more kp
  by_cases c4 : e = 0
  rotate_left
  · simp (disch := (first | omega | assumption | rfl | (simp only [hn_new, hn_put, skip_n]; omega))) only [go_sem]; exact no _ _ (by omega) k2
  simp (disch := (first | omega | assumption | rfl | (simp only [hn_new, hn_put, skip_n]; omega))) only [go_sem, c4]
  obtain ⟨j, rfl⟩ : ∃ j : Nat, c = j := ⟨c.toNat, by omega⟩
  have hj : j < 6 := by omega
  refine ⟨fun l h' => (ls j = 0 ∨ ∃ (i : Nat) (x : List AV), ls j = i + 1 ∧ rs[i]? = some x ∧ 0 ≤ cI x 7 ∧ cI x 1 < s) ∧ Hs h0 (Cell h.n (.rows 4 [o] false none none) :: HiC r v E ls :: LsC 14 v rs :: L) h', ?_, ?_⟩
  · rcases hl j hj with hz | ⟨i, x, hi, hx⟩
    · refine on2_eq (hof_none (by omega) k2.at2 (.inr (.inr ⟨j, rfl, hj, hz⟩))) ?_
      simp (disch := (first | omega | assumption | rfl | (simp only [hn_new, hn_put, skip_n]; omega))) only [go_sem, nqz111]
      exact ⟨.inl hz, k2⟩
    · have hil := (List.getElem?_eq_some_iff.1 hx).1
      have fx := hr x (List.mem_of_getElem? hx)
      obtain ⟨b, o', e1, _, e3, _⟩ := k2.at3.sl.idx hx
      have g7 : cellG (o' + 7) (h7.get b) = some (.int .i64 (cI x 7)) := by have := e3 7 (by omega); rw [cellQ_some _ _ _ (by omega), fx.int 7 rfl] at this; exact this
      have g1 : cellG (o' + 1) (h7.get b) = some (.int .i64 (cI x 1)) := by have := e3 1 (by omega); rw [cellQ_some _ _ _ (by omega), fx.int 1 rfl] at this; exact this
      refine on2_eq (hof_some (by omega) k2.at2 hj hi (by omega) e1) ?_
      have k3 := k2.more ((Keep.refl _ _).skip 13)
      by_cases c5 : cI x 7 < 0
      · simp (disch := (first | omega | assumption | rfl | (simp only [hn_new, hn_put, skip_n]; omega))) only [go_sem, nqn111, g7]; exact no _ _ (by omega) k3
      by_cases c6 : s ≤ cI x 1
      · simp (disch := (first | omega | assumption | rfl | (simp only [hn_new, hn_put, skip_n]; omega))) only [go_sem, nqn111, g7, g1]; exact no _ _ (by omega) k3
      simp (disch := (first | omega | assumption | rfl | (simp only [hn_new, hn_put, skip_n]; omega))) only [go_sem, nqn111, g7, g1]
      exact ⟨.inr ⟨i, x, hi, hx, by omega, by omega⟩, k3⟩
  · intro h21 ⟨hcond, kJ⟩
    have k3 := kJ.skip (n := 16) (i := 11) (by omega)
    have gr := kJ.at2.get
    have gb := kJ.get
    have hbr := kJ.ne
    have hrn := kJ.at2.lt
    have hbn := kJ.lt
    have k4 := k3.at3.put (.rows 9 [hiRow v (E + 1) ls] false none none)
    have k5 := k4.at2.fput (.rows 14 [newRec j s o E] false none none)
    have gr5 := k5.at2.get
    have gb5 := k5.at3.get
    have hle : (newRec j s o E).length = 14 := by simp [newRec, hol4]
    obtain ⟨v', h34, a1, a2, a3⟩ := k5.at4.app (by omega) 136 (rows_one k5.get (by omega) 1) (by simp; omega) (by simp; omega)
    have k6 := a2.at3.put (.rows 9 [hiRow v' (E + 1) ls] false none none)
    have k7 := k6.more ((Keep.refl _ _).skip 11)
    have k8 := k7.put (.rows 9 [hiRow v' (E + 1) (upd ls j (rs.length + 1))] false none none)
    have gr6 := a2.at3.get
    have hlen' : lenS v' = some (rs.length + 1) := by have := a2.sl.len; simpa using this
    have sv := kJ.at3.samev
    have ov : overS 1 [.int .i64 (-1)] 7 ((.int .i64 (j : Int) :: .int .i64 s :: (o ++ [.int .i64 E, .int .i64 0, .int .i64 0, .int .i64 0, .int .i64 0, .str [], .int .i64 0, .int .i64 0]))) = some (newRec j s o E) := by
      obtain ⟨_, _, rfl, _, _, _, rfl, _, _, _, rfl, _, _, _, rfl, _, rfl⟩ := hf; rfl
    have ov6 : overS 1 [.int .i64 E] 6 ((.int .i64 (j : Int) :: .int .i64 s :: (o ++ [.int .i64 0, .int .i64 0, .int .i64 0, .int .i64 0, .int .i64 0, .str [], .int .i64 0, .int .i64 0]))) = some (.int .i64 (j : Int) :: .int .i64 s :: (o ++ [.int .i64 E, .int .i64 0, .int .i64 0, .int .i64 0, .int .i64 0, .str [], .int .i64 0, .int .i64 0])) := by
      obtain ⟨_, _, rfl, _, _, _, rfl, _, _, _, rfl, _, _, _, rfl, _, rfl⟩ := hf; rfl
    have ov2 : overS 4 o 2 [.int .i64 (j : Int), .int .i64 s, .int .i64 0, .str [], .str [], .int .i64 0, .int .i64 0, .int .i64 0, .int .i64 0, .int .i64 0, .int .i64 0, .str [], .int .i64 0, .int .i64 0] = some (.int .i64 (j : Int) :: .int .i64 s :: (o ++ [.int .i64 0, .int .i64 0, .int .i64 0, .int .i64 0, .int .i64 0, .str [], .int .i64 0, .int .i64 0])) := by
      obtain ⟨_, _, rfl, _, _, _, rfl, _, _, _, rfl, _, _, _, rfl, _, rfl⟩ := hf; rfl
    have hev := hevent (n := n) (by omega) k3.at3 hE
    simp (disch := (first | omega | assumption | rfl | (simp only [hn_new, hn_put, skip_n]; omega))) only [go_sem, gr, hi_1, hi_len, gb, hev, ov2, ov6, ov, hle, a1, a2.one, gr6, hi_s1, sv, hos, hlen', arr_nat hj, hi_sk _ _ _ _ hj]
    exact ⟨0, rfl, .inr ⟨rfl, j, v', hj, rfl, by omega, hcond, k8.at3.drop.at3.drop.at2.at2⟩⟩
/-- what an end may come to -/
def EndP (h0 : Go.Abs.H) (L : List Ch) (r : Nat) (E c s : Int) (v : AV) (rs : List (List AV)) (ls : Nat → Int) (o : List AV) (e : Int) (h' : Go.Abs.H) : Prop :=
  (e ≠ 0 ∧ Hs h0 (HiC r v E ls :: LsC 14 v rs :: L) h') ∨
   (e = 0 ∧ 1 ≤ cI o 0 ∧ ∃ (j i : Nat) (x : List AV), j < 6 ∧ c = j ∧ ls j = i + 1 ∧ rs[i]? = some x ∧ cI x 7 < 0 ∧ cI x 1 = s ∧ Hs h0 (HiC r v (E + 1) ls :: LsC 14 v (rs.set i (endRec x o E)) :: L) h')
theorem end_eq {x o : List AV} (hx : x.length = 14) (ho : o.length = 6) : (x.take 7 ++ [AV.int .i64 E] ++ x.drop (7 + 1)).take 8 ++ o ++ (x.take 7 ++ [AV.int .i64 E] ++ x.drop (7 + 1)).drop (8 + 6) = endRec x o E := by
  have h1 : (x.take 7 ++ [AV.int .i64 E]).length = 8 := by simp [hx]
  have h2 : (x.take 7 ++ [AV.int .i64 E] ++ x.drop (7 + 1)).length = 14 := by simp [hx]
  have h3 : (x.take 7 ++ [AV.int .i64 E] ++ x.drop (7 + 1)).take 8 = x.take 7 ++ [AV.int .i64 E] := by
    generalize x.take 7 ++ [AV.int .i64 E] = A at h1
    rw [← h1, List.take_left]
  have h4 : (x.take 7 ++ [AV.int .i64 E] ++ x.drop (7 + 1)).drop (8 + 6) = [] := List.drop_eq_nil_of_le (by omega)
  rw [h3, h4]; simp [endRec]
theorem end_ok (hn : 4 ≤ n) (k : Hs h0 (HiC r v E ls :: LsC 14 v rs :: L) h) (hr : ∀ x ∈ rs, Fits RK x) (hl : Lasts rs ls) (hE : 0 ≤ E ∧ E ≤ 1000000) (hlen : rs.length ≤ 1000) {o : List AV} (hf : Fits OK6 o) :
    ∃ e h', callX env sums n 29 [.ptr r 0, .int .i64 c, .int .i64 s, .agg o] h = some (.int .i64 e, h') ∧ EndP h0 L r E c s v rs ls o e h' := by
  obtain ⟨n, rfl⟩ : ∃ k, n = k + 1 := ⟨n - 1, by omega⟩
  have hol : o.length = 6 := hf.length
  have hos := hf.same
  suffices hh : W.Spec env sums (n + 1) 29 [.ptr r 0, .int .i64 c, .int .i64 s, .agg o] h (fun a h' => ∃ e, a = .int .i64 e ∧ EndP h0 L r E c s v rs ls o e h') by
    obtain ⟨a, h', e, x, rfl, q⟩ := hh; exact ⟨x, h', e, q⟩
  have k1 := k.new (.rows 6 [o] false none none)
  have o0 : nth o 0 = some (.int .i64 (cI o 0)) := hf.int 0 rfl
  have no : ∀ (e : Int) (h' : Go.Abs.H), e ≠ 0 → Hs h0 (Cell h.n (.rows 6 [o] false none none) :: HiC r v E ls :: LsC 14 v rs :: L) h' → ∃ x, AV.int .i64 e = .int .i64 x ∧ EndP h0 L r E c s v rs ls o x h' := fun e h' he k => ⟨e, rfl, .inl ⟨he, k.drop⟩⟩
  refine spec_trN [.ptr r 0, .int .i64 c, .int .i64 s, .agg o] rfl ft29 (by kernel_rfl) (tn29 ..) ?_
  simp (disch := (first | omega | assumption | rfl | (simp only [hn_new, hn_put, skip_n]; omega))) only [go_sem, hol, hnone (n := n) (by omega) k1.at2]
  by_cases c1 : cI o 0 < 1
  · simp (disch := (first | omega | assumption | rfl | (simp only [hn_new, hn_put, skip_n]; omega))) only [go_sem, o0]; exact no _ _ (by omega) k1
  by_cases c2 : 3 < cI o 0
  · simp (disch := (first | omega | assumption | rfl | (simp only [hn_new, hn_put, skip_n]; omega))) only [go_sem, o0]; exact no _ _ (by omega) k1
  simp (disch := (first | omega | assumption | rfl | (simp only [hn_new, hn_put, skip_n]; omega))) only [go_sem, o0]
  by_cases hc : c < 0 ∨ 6 ≤ c ∨ ∃ j : Nat, c = j ∧ j < 6 ∧ ls j = 0
  · refine on2_eq (hof_none (by omega) k1.at2 hc) ?_
    simp (disch := (first | omega | assumption | rfl | (simp only [hn_new, hn_put, skip_n]; omega))) only [go_sem, eqz111]; exact no _ _ (by omega) k1
  · obtain ⟨j, rfl⟩ : ∃ j : Nat, c = j := ⟨c.toNat, by omega⟩
    have hj : j < 6 := by omega
    rcases hl j hj with hz | ⟨i, x, hi, hx⟩
    · exact absurd (.inr (.inr ⟨j, rfl, hj, hz⟩)) hc
    have hil := (List.getElem?_eq_some_iff.1 hx).1
    have fx := hr x (List.mem_of_getElem? hx)
    have hxl : x.length = 14 := fx.length
    have k2 := k1.more ((Keep.refl _ _).skip 13)
    have k3 := k2.more ((Keep.refl _ _).skip 11)
    have k4 := k3.at2.put (.rows 9 [hiRow v (E + 1) ls] false none none)
    obtain ⟨b, o', h25, e1, st1, k5, hn5⟩ := k4.at3.set hx hxl (c := 7) (cs := [.int .i64 E]) (by simp) (by omega)
    have hx2 : (rs.set i (x.take 7 ++ [.int .i64 E] ++ x.drop (7 + [AV.int .i64 E].length)))[i]? = some (x.take 7 ++ [.int .i64 E] ++ x.drop (7 + 1)) := by
      rw [List.getElem?_set_self hil]; rfl
    obtain ⟨b2, o2, h28, e2, st2, k6, hn6⟩ := k5.set hx2 (by simp [hxl]) (c := 8) (cs := o) (by omega) (by omega)
    rw [e1] at e2; cases e2
    obtain ⟨b3, o3, q1, _, q3, q4⟩ := k1.at3.sl.idx hx
    rw [e1] at q1; cases q1
    have g7 : cellG (o' + 7) ((h.new (.rows 6 [o] false none none)).get b) = some (.int .i64 (cI x 7)) := by have := q3 7 (by omega); rw [cellQ_some _ _ _ (by omega), fx.int 7 rfl] at this; exact this
    have g1 : cellG (o' + 1) ((h.new (.rows 6 [o] false none none)).get b) = some (.int .i64 (cI x 1)) := by have := q3 1 (by omega); rw [cellQ_some _ _ _ (by omega), fx.int 1 rfl] at this; exact this
    refine on2_eq (hof_some (by omega) k1.at2 hj hi (by omega) e1) ?_
    by_cases c5 : cI x 1 = s
    rotate_left
    · simp (disch := (first | omega | assumption | rfl | (simp only [hn_new, hn_put, skip_n]; omega))) only [go_sem, eqn111, g1]; exact no _ _ (by omega) k2
    by_cases c6 : 0 ≤ cI x 7
    · simp (disch := (first | omega | assumption | rfl | (simp only [hn_new, hn_put, skip_n]; omega))) only [go_sem, eqn111, g1, g7]; exact no _ _ (by omega) k2
    have gb := k5.at3.get
    have gb1 := k1.get
    have hbn := k1.lt
    have hrn := k1.at2.lt
    have hbr := k1.ne
    have hev := hevent (n := n) (by omega) k3.at2 hE
    simp (disch := (first | omega | assumption | rfl | (simp only [hn_new, hn_put, skip_n]; omega))) only [go_sem, eqn111, g1, g7, hev, gb1, st1, gb, st2, hol, hos]
    have k7 := k6.at2
    have hfin : (rs.set i (x.take 7 ++ [AV.int .i64 E] ++ x.drop (7 + [AV.int .i64 E].length))).set i ((x.take 7 ++ [AV.int .i64 E] ++ x.drop (7 + 1)).take 8 ++ o ++ (x.take 7 ++ [AV.int .i64 E] ++ x.drop (7 + 1)).drop (8 + o.length)) = rs.set i (endRec x o E) := by
      rw [List.set_set, hol, end_eq hxl hol]
    rw [hfin] at k6
    exact ⟨0, rfl, .inr ⟨rfl, by omega, j, i, x, hj, rfl, hi, hx, by omega, c5, k6.at3.drop.at2.at2.at2⟩⟩
end
end Go.Proofs.Ytpfgbnmeaalpdaa
