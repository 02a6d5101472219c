/-
  Reads: lists that are the same are told to be so.
-/
import Derived.Test.YtpfgbnmeaalpdaaReadB
import Derived.Test.YtpfgbnmeaalpdaaTp2
namespace Go.Proofs.Ytpfgbnmeaalpdaa
open Go Go.Abs Go.Abs.S Go.Abs.W
set_option maxRecDepth 10000
set_option maxHeartbeats 1000000

/-- a frame's cells, as far as calls go; a row's -/
structure FrOk (f : List AV) : Prop where
  len : f.length = 29
  ints : ∀ j, j < 7 → ∃ n, nth f j = some (.int .i64 n)
  op : Fits [.i, .s, .s, .i] ((f.drop 7).take 4)
  same : sameL f f = true
structure RowOk (x : List AV) : Prop where
  len : x.length = 34
  id : ∃ n, nth x 0 = some (.int .i64 n)
  fr : FrOk ((x.drop 1).take 29)
  res : Fits [.i, .s, .i, .i] ((x.drop 30).take 4)

theorem flat33 : flatIs (env.tt.get 33) [.i, .s, .s, .i] = true := by kernel_rfl
theorem flat35 : flatIs (env.tt.get 35) [.i, .s, .i, .i] = true := by kernel_rfl
section
variable {h : Go.Abs.H} {n : Nat} {a b : AV} {rs : List (List AV)}
theorem frames_ok (hn : rs.length + 2 ≤ n) (ha : SlR h 29 a rs) (hb : SlR h 29 b rs) (la : ∀ x, blkOf a = some x → x < h.n) (lb : ∀ x, blkOf b = some x → x < h.n) (hr : ∀ f ∈ rs, FrOk f) (hl : rs.length ≤ 1000) :
    ∃ h', callX env sums n 61 [a, b] h = some (.bool true, h') ∧ Keep h h' [] := by
  obtain ⟨n, rfl⟩ : ∃ k, n = k + 1 := ⟨n - 1, by omega⟩
  suffices hh : W.Spec env sums (n + 1) 61 [a, b] h (fun v h' => v = .bool true ∧ Keep h h' []) by
    obtain ⟨v, h', e, rfl, k⟩ := hh; exact ⟨h', e, k⟩
  refine spec_trN [.v a, .v b] rfl ft61 (by kernel_rfl) (tn61 ..) ?_
  simp (disch := (first | omega | assumption | rfl | (simp only [hn_new, hn_put, skip_n]; omega))) only [go_sem, heapN, ha.len, hb.len]
  refine ⟨fun l m h1 => ∃ i : Nat, l = [.int .i64 i] ∧ m = rs.length - i ∧ i ≤ rs.length ∧ Keep h h1 [], ⟨rs.length, by omega, 0, rfl, by omega, by omega, Keep.refl h _⟩, ?_⟩
  intro n4 m5 h6 ⟨i, e, hm, hi, kp⟩
  cases e; subst hm
  by_cases hlt : (i : Int) < rs.length
  · obtain ⟨f, hf⟩ : ∃ f, rs[i]? = some f := ⟨rs[i], List.getElem?_eq_getElem (by omega)⟩
    have fk := hr f (List.mem_of_getElem? hf)
    have fl := fk.len
    have fs := fk.same
    obtain ⟨b1, o1, p1, p2, _, p4⟩ := (ha.keep fun x hx => kp.2 x (la x hx) (by simp)).idx hf
    obtain ⟨b2, o2, q1, q2, _, q4⟩ := (hb.keep fun x hx => kp.2 x (lb x hx) (by simp)).idx hf
    have l1 := la b1 p4
    have l2 := lb b2 q4
    have hkn := kp.1
    obtain ⟨x0, g0⟩ := fk.ints 0 (by omega)
    obtain ⟨x1, g1⟩ := fk.ints 1 (by omega)
    obtain ⟨x2, g2⟩ := fk.ints 2 (by omega)
    obtain ⟨x3, g3⟩ := fk.ints 3 (by omega)
    obtain ⟨x4, g4⟩ := fk.ints 4 (by omega)
    obtain ⟨x5, g5⟩ := fk.ints 5 (by omega)
    obtain ⟨x6, g6⟩ := fk.ints 6 (by omega)
    have g7 : takeN 4 (dropN 7 f) = some ((f.drop 7).take 4) := takeN_some (by omega)
    have g8 := (eqT_self flat33 fk.op).1
    have ov := fun (l : List AV) (hl : f.length = l.length) => over_full hl
    simp (disch := (first | omega | assumption | rfl | (simp only [hn_new, hn_put, skip_n]; omega))) only [go_sem, heapN, ha.len, p1, p2, q1, q2, fl, fs, g0, g1, g2, g3, g4, g5, g6, g7, g8, over_full]
    exact ⟨rs.length - (i + 1), by omega, i + 1, by simp, rfl, by omega, by (repeat' first | exact kp | refine Keep.skip ?_ _ | refine Keep.new ?_ _ | refine Keep.put ?_ (.inl (by first | omega | (simp only [hn_new, hn_put, skip_n]; omega))) _)⟩
  · simp (disch := (first | omega | assumption | rfl | (simp only [hn_new, hn_put, skip_n]; omega))) only [go_sem, heapN, ha.len]
    exact kp
theorem same_ok (hn : rs.length + 10 ≤ n) (ha : SlR h 34 a rs) (hb : SlR h 34 b rs) (la : ∀ x, blkOf a = some x → x < h.n) (lb : ∀ x, blkOf b = some x → x < h.n) (hr : ∀ f ∈ rs, RowOk f) (hl : rs.length ≤ 1000) :
    ∃ h', callX env sums n 18 [a, b] h = some (.bool true, h') ∧ Keep h h' [] := by
  obtain ⟨n, rfl⟩ : ∃ k, n = k + 1 := ⟨n - 1, by omega⟩
  suffices hh : W.Spec env sums (n + 1) 18 [a, b] h (fun v h' => v = .bool true ∧ Keep h h' []) by
    obtain ⟨v, h', e, rfl, k⟩ := hh; exact ⟨h', e, k⟩
  refine spec_trN [.v a, .v b] rfl ft18 (by kernel_rfl) (tn18 ..) ?_
  simp (disch := (first | omega | assumption | rfl | (simp only [hn_new, hn_put, skip_n]; omega))) only [go_sem, heapN, ha.len, hb.len]
  refine ⟨fun l m h1 => ∃ i : Nat, l = [.int .i64 i] ∧ m = rs.length - i ∧ i ≤ rs.length ∧ Keep h h1 [], ⟨rs.length, by omega, 0, rfl, by omega, by omega, Keep.refl h _⟩, ?_⟩
  intro n4 m5 h6 ⟨i, e, hm, hi, kp⟩
  cases e; subst hm
  by_cases hlt : (i : Int) < rs.length
  · obtain ⟨f, hf⟩ : ∃ f, rs[i]? = some f := ⟨rs[i], List.getElem?_eq_getElem (by omega)⟩
    have fk := hr f (List.mem_of_getElem? hf)
    have fl := fk.len
    obtain ⟨b1, o1, p1, _, p3, p5, p4⟩ := (ha.keep fun x hx => kp.2 x (la x hx) (by simp)).part hf
    obtain ⟨b2, o2, q1, _, q3, q5, q4⟩ := (hb.keep fun x hx => kp.2 x (lb x hx) (by simp)).part hf
    have l1 := la b1 p4
    have l2 := lb b2 q4
    have hkn := kp.1
    obtain ⟨x0, g0⟩ := fk.id
    have a0 : cellG o1 (h6.get b1) = some (.int .i64 x0) := by have := p3 0 (by omega); rw [cellQ_some _ _ _ (by omega), g0] at this; exact this
    have c0 : cellG o2 (h6.get b2) = some (.int .i64 x0) := by have := q3 0 (by omega); rw [cellQ_some _ _ _ (by omega), g0] at this; exact this
    have a1 := p5 1 29 (by omega) (by omega)
    have c1 := q5 1 29 (by omega) (by omega)
    have a2 := p5 30 4 (by omega) (by omega)
    have c2 := q5 30 4 (by omega) (by omega)
    rw [takeN_some (by omega)] at a1 c1 a2 c2
    have g8 := (eqT_self flat35 fk.res).1
    have g9 := fk.fr.len
    simp (disch := (first | omega | assumption | rfl | (simp only [hn_new, hn_put, skip_n]; omega))) only [go_sem, heapN, ha.len, p1, q1, a0, c0, a1, c1, a2, c2, g8, g9]
    refine on2_ex (frames_ok (rs := [(f.drop 1).take 29]) (by simp; omega) (.inr ⟨_, 0, [(f.drop 1).take 29], false, none, none, ?_, by omega, .inl ⟨1, rfl⟩, fun j _ => by simp⟩) (.inr ⟨_, 0, [(f.drop 1).take 29], false, none, none, ?_, by omega, .inl ⟨1, rfl⟩, fun j _ => by simp⟩) ?_ ?_ ?_ (by simp)) ?_
    · simp (disch := (first | omega | assumption | rfl | (simp only [hn_new, hn_put, skip_n]; omega))) only [go_sem, heapN]
    · simp (disch := (first | omega | assumption | rfl | (simp only [hn_new, hn_put, skip_n]; omega))) only [go_sem, heapN]
    · intro x hx; cases hx; simp only [hn_put, skip_n]; omega
    · intro x hx; cases hx; simp only [hn_put, skip_n]; omega
    · intro g hg; rw [List.mem_singleton] at hg; subst hg; exact fk.fr
    · intro h' kp'
      simp (disch := (first | omega | assumption | rfl | (simp only [hn_new, hn_put, skip_n]; omega))) only [go_sem, heapN]
      exact ⟨rs.length - (i + 1), by omega, i + 1, by simp, rfl, by omega, Keep.trans (by (repeat' first | exact kp | refine Keep.skip ?_ _ | refine Keep.new ?_ _ | refine Keep.put ?_ (.inl (by first | omega | (simp only [hn_new, hn_put, skip_n]; omega))) _)) kp'⟩
  · simp (disch := (first | omega | assumption | rfl | (simp only [hn_new, hn_put, skip_n]; omega))) only [go_sem, heapN, ha.len]
    exact kp
end
end Go.Proofs.Ytpfgbnmeaalpdaa
