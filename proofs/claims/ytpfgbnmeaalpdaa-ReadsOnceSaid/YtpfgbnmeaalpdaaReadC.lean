/-
  Reads: are acts more than is gone through?
-/
import Derived.Test.YtpfgbnmeaalpdaaReadB
import Derived.Test.YtpfgbnmeaalpdaaTo
namespace Go.Proofs.Ytpfgbnmeaalpdaa
open Go Go.Abs Go.Abs.S Go.Abs.W
set_option maxRecDepth 10000
set_option maxHeartbeats 1000000

theorem ShL_nth {h : Go.Abs.H} : ∀ (q : List Sh) (r : List AV) (i : Nat) (s : Sh), ShL h q r → nth q i = some s → ∃ v, nth r i = some v ∧ Sh1 h s v
  | [], r, i, s, _, k => by rw [nth_eq] at k; simp at k
  | s0 :: q, r, 0, s, ⟨v, r', e, h1, _⟩, k => by
    subst e
    rw [nth_zero] at k ⊢
    cases k; exact ⟨v, rfl, h1⟩
  | s0 :: q, r, i + 1, s, ⟨v, r', e, _, h2⟩, k => by
    subst e
    rw [nth_succ] at k ⊢
    exact ShL_nth q r' i s h2 k

/-- an act's cells -/
noncomputable def shAct : List Sh := match shapeOf Try.prog 9 22 with
  | some [.sl _ q] => q
  | _ => []
theorem shape22 : shapeOf Try.prog 9 22 = some [.sl 35 shAct] := by kernel_rfl
theorem act0 : nth shAct 0 = some (.int .u8) := by kernel_rfl
theorem act7 : nth shAct 7 = some (.int .i64) := by kernel_rfl
theorem act9 : nth shAct 9 = some .str := by kernel_rfl
theorem act10 : nth shAct 10 = some .str := by kernel_rfl
theorem act31 : nth shAct 31 = some .str := by kernel_rfl
theorem act34 : nth shAct 34 = some (.int .i64) := by kernel_rfl
theorem act25 : ∃ q, nth shAct 25 = some (.sl 2 q) := by
  have e : nth shAct 25 = some (.sl 2 (match nth shAct 25 with | some (.sl _ q) => q | _ => [])) := by kernel_rfl
  exact ⟨_, e⟩
theorem actlen : shAct.length = 35 := by kernel_rfl
theorem ShL_len {h : Go.Abs.H} : ∀ (q : List Sh) (r : List AV), ShL h q r → r.length = q.length
  | [], r, k => by have : r = [] := k; subst this; rfl
  | s0 :: q, r, ⟨v, r', e, _, h2⟩ => by subst e; simp [ShL_len q r' h2]
theorem lenS_sh {h : Go.Abs.H} {es : Nat} {q : List Sh} {v : AV} (k : Sh1 h (.sl es q) v) : ∃ n, lenS v = some n := by
  rcases k with rfl | rfl | ⟨b, rs, cap, rfl, _⟩
  · exact ⟨_, rfl⟩
  · exact ⟨_, rfl⟩
  · exact ⟨_, rfl⟩

theorem ft9 : env.ft.get 9 = some Try.f9 := by kernel_rfl
theorem end9 (p : Pr) (K : AV → Go.Abs.H → Prop) (h : Go.Abs.H) (c : Bool) : endQ p env Try.f9.results.toList K .ret (frS [(4, .bool c)]) h = K (.bool c) h := by kernel_rfl
theorem end9' (p : Pr) (K : AV → Go.Abs.H → Prop) (h : Go.Abs.H) (c : Bool) (a : AV) (n m : Int) : endQ p env Try.f9.results.toList K .ret (frS [(0, .v a), (1, .int .i64 n), (4, .lit c), (5, .int .i64 m)]) h = K (.bool c) h := by kernel_rfl

def I9 (h : Go.Abs.H) (a : AV) (xs : List (List AV)) (m : Nat) (f : T SV) (h1 : Go.Abs.H) : Prop :=
  ∃ (i : Nat) (j : Int), j = i ∧ f = frS [(0, .v a), (1, .int .i64 100), (5, .int .i64 j)] ∧ i ≤ xs.length ∧ m = xs.length - i ∧ h1 = h

theorem great_ok {n : Nat} {h : Go.Abs.H} {a : AV} {xs : List (List AV)} (hn : xs.length + 2 ≤ n) (hsl : SlR h 35 a xs) (hrow : ∀ r ∈ xs, ShL h shAct r) (hlen : xs.length ≤ 9223372036854775807) :
    ∃ b, callX env sums n 9 [a, .int .i64 100] h = some (.bool b, h) ∧ (b = false → xs.length ≤ 100) := by
  obtain ⟨n, rfl⟩ : ∃ k, n = k + 1 := ⟨n - 1, by omega⟩
  suffices hh : W.Spec env sums (n + 1) 9 [a, .int .i64 100] h (fun v h' => ∃ b, v = .bool b ∧ h' = h ∧ (b = false → xs.length ≤ 100)) by
    obtain ⟨v, h', e, b, rfl, rfl, k⟩ := hh
    exact ⟨b, e, k⟩
  refine spec_evb [.v a, .int .i64 100] rfl ft9 (by kernel_rfl) ?_
  have hfr : initS [.v a, .int .i64 100] 0 .nil = frS [(0, .v a), (1, .int .i64 100)] := rfl
  rw [hfr]
  refine EvX.of (c := sub [] (bodyOf Try.f9)) ?_
  rw [cs9_]
  refine ev_seq (ev_tr (tr9a ..) ?_)
  show EvX _ _ _ (sub [1] (bodyOf Try.f9)) _ _ _
  rw [cs9_1]
  refine ev_seq ?_
  rw [cs9_10]
  refine ev_seq (ev_tr (tr9b ..) ?_)
  show EvX _ _ _ (sub [1, 0, 1] (bodyOf Try.f9)) _ _ _
  rw [cs9_101]
  refine ev_block ?_
  rw [cs9_1010]
  refine loop_rule (I9 h a xs) ?_ (m := xs.length) (by omega) ⟨0, 0, rfl, rfl, by omega, by omega, rfl⟩
  intro m f h1 ⟨i, j, hj, hf, hi, hm, hh⟩
  subst hj hf hm hh
  rw [cs9_10100]
  refine ev_seq (ev_tr (tr9c ..) ?_)
  by_cases hlt : (i : Int) < xs.length
  · simp (disch := (first | omega | assumption | rfl | (simp only [hn_new, hn_put, skip_n]; omega))) only [go_sem, hsl.len]
    show EvX _ _ _ (sub [1, 0, 1, 0, 0, 1] (bodyOf Try.f9)) _ _ _
    rw [cs9_101001]
    refine ev_seq ?_
    rw [cs9_1010010]
    refine ev_block ?_
    have hlt' : i < xs.length := by omega
    obtain ⟨r, hr⟩ : ∃ r, xs[i]? = some r := ⟨xs[i], List.getElem?_eq_getElem hlt'⟩
    have hsh := hrow r (List.mem_of_getElem? hr)
    obtain ⟨b, o, e1, e2, e3, _⟩ := hsl.idx hr
    obtain ⟨_, f1, s1, rfl, l1⟩ := ShL_nth _ _ _ _ hsh act9
    obtain ⟨_, f2, s2, rfl, l2⟩ := ShL_nth _ _ _ _ hsh act10
    obtain ⟨_, f3, s3, rfl, l3⟩ := ShL_nth _ _ _ _ hsh act31
    obtain ⟨q, hq⟩ := act25
    obtain ⟨w, f4, hw⟩ := ShL_nth _ _ _ _ hsh hq
    obtain ⟨len, hl⟩ := lenS_sh hw
    have g1 : cellG (o + 1 + 7 + 1) (h1.get b) = some (.str s1) := by have := e3 9 (by omega); rw [cellQ_some _ _ _ (by omega), f1] at this; exact this
    have g2 : cellG (o + 1 + 7 + 2) (h1.get b) = some (.str s2) := by have := e3 10 (by omega); rw [cellQ_some _ _ _ (by omega), f2] at this; exact this
    have g3 : cellG (o + 30 + 1) (h1.get b) = some (.str s3) := by have := e3 31 (by omega); rw [cellQ_some _ _ _ (by omega), f3] at this; exact this
    have g4 : cellG (o + 1 + 23 + 1) (h1.get b) = some w := by have := e3 25 (by omega); rw [cellQ_some _ _ _ (by omega), f4] at this; exact this
    refine ev_tr (tr9d ..) ?_
    have yes : ∀ m, endQ (std env (callX env sums n) n) env Try.f9.results.toList (fun v h' => ∃ b, v = .bool b ∧ h' = h1 ∧ (b = false → xs.length ≤ 100)) .ret (frS [(0, .v a), (1, .int .i64 100), (4, .lit true), (5, .int .i64 m)]) h1 := fun m => by
      rw [end9']; exact ⟨true, rfl, rfl, fun e => by cases e⟩
    by_cases c1 : (200 : Int) < s1.length
    · simp (disch := (first | omega | assumption | rfl | (simp only [hn_new, hn_put, skip_n]; omega))) only [go_sem, e1, g1]
      exact yes _
    by_cases c2 : (200 : Int) < s2.length
    · simp (disch := (first | omega | assumption | rfl | (simp only [hn_new, hn_put, skip_n]; omega))) only [go_sem, e1, g1, g2]
      exact yes _
    by_cases c3 : (200 : Int) < s3.length
    · simp (disch := (first | omega | assumption | rfl | (simp only [hn_new, hn_put, skip_n]; omega))) only [go_sem, e1, g1, g2, g3]
      exact yes _
    by_cases c4 : (0 : Int) < len
    · simp (disch := (first | omega | assumption | rfl | (simp only [hn_new, hn_put, skip_n]; omega))) only [go_sem, e1, g1, g2, g3, g4, hl]
      exact yes _
    simp (disch := (first | omega | assumption | rfl | (simp only [hn_new, hn_put, skip_n]; omega))) only [go_sem, e1, g1, g2, g3, g4, hl]
    show EvX _ _ _ (sub [1, 0, 1, 0, 0, 1, 1] (bodyOf Try.f9)) _ _ _
    refine ev_tr (tr9e ..) ?_
    simp (disch := (first | omega | assumption | rfl | (simp only [hn_new, hn_put, skip_n]; omega))) only [go_sem]
    exact ⟨xs.length - (i + 1), by omega, i + 1, _, by omega, rfl, by omega, rfl, rfl⟩
  · simp (disch := (first | omega | assumption | rfl | (simp only [hn_new, hn_put, skip_n]; omega))) only [go_sem, hsl.len]
    show EvX _ _ _ (sub [1, 1] (bodyOf Try.f9)) _ _ _
    refine EvX.less (f0 := frS [(0, .v a), (1, .int .i64 100)]) ?_ (less_of ⟨⟨_, rfl, rfl⟩, ⟨_, rfl, rfl⟩, trivial⟩)
    refine ev_tr (tr9f ..) ?_
    simp (disch := (first | omega | assumption | rfl | (simp only [hn_new, hn_put, skip_n]; omega))) only [go_sem, hsl.len]
    rw [end9]
    exact ⟨_, rfl, rfl, fun e => by simp at e; omega⟩
end Go.Proofs.Ytpfgbnmeaalpdaa
