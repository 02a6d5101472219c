/-
  Reads: the document's functions (2), and copies.
-/
import Derived.Test.YtpfgbnmeaalpdaaReadI
namespace Go.Proofs.Ytpfgbnmeaalpdaa
open Go Go.Abs Go.Abs.S Go.Abs.W
set_option maxRecDepth 10000
set_option maxHeartbeats 1000000

theorem take_while {α : Type} {p : α → Bool} : ∀ {l : List α} {i : Nat}, i ≤ l.length → (∀ x ∈ l.take i, p x = true) → (∀ x, l[i]? = some x → p x = false) → l.takeWhile p = l.take i ∧ l.dropWhile p = l.drop i
  | [], i, _, _, _ => by simp
  | y :: l, 0, _, _, h => by have := h y (by simp); simp [List.takeWhile, List.dropWhile, this]
  | y :: l, i + 1, hi, h1, h2 => by
    obtain ⟨e1, e2⟩ := take_while (l := l) (i := i) (by simpa using hi) (fun x hx => h1 x (by simp [hx])) (fun x hx => h2 x (by simpa using hx))
    have := h1 y (by simp)
    simp [List.takeWhile, List.dropWhile, this, e1, e2]
theorem slis56 : slIs env.tt 56 34 = true := by kernel_rfl
section
variable {h0 h : Go.Abs.H} {L : List Ch} {n : Nat} {r : Nat} {cap last : Int} {v : AV} {rows : List (List AV)}

theorem sure_q (hn : rows.length + 3 ≤ n) (k : Hs h0 (RdC r cap last rows :: L) h) (hr : Rows rows) (x : Int) :
    ∃ vo h', callX env sums n 19 [.ptr r 0, .int .i64 x] h = some (vo, h') ∧ SlR h' 34 vo (rows.takeWhile (idI fun a => decide (a ≤ x))) ∧ (∀ y, blkOf vo = some y → y < h'.n) ∧ Hs h0 (RdC r cap last (rows.dropWhile (idI fun a => decide (a ≤ x))) :: L) h' := by
  obtain ⟨n, rfl⟩ : ∃ k, n = k + 1 := ⟨n - 1, by omega⟩
  obtain ⟨S, ⟨v, T, q, rfl⟩, hS, o1, _⟩ := k.out
  have g := q.at'
  have s := q.lst.sl
  have hm := q.many
  generalize hp : (idI fun a => decide (a ≤ x)) = p
  suffices hh : W.Spec env sums (n + 1) 19 [.ptr r 0, .int .i64 x] h (fun vo h' => SlR h' 34 vo (rows.takeWhile p) ∧ (∀ y, blkOf vo = some y → y < h'.n) ∧ Hs h0 (RdC r cap last (rows.dropWhile p) :: L) h') by
    obtain ⟨vo, h', e, q⟩ := hh; exact ⟨vo, h', e, q⟩
  refine spec_trN [.ptr r 0, .int .i64 x] rfl ft19 (by kernel_rfl) (tn19 ..) ?_
  simp (disch := (first | omega | assumption | rfl | (simp only [hn_new, hn_put, skip_n]; omega))) only [go_sem, heapN]
  refine ⟨fun l m h1 => h1 = h ∧ ∃ i : Nat, l = [.int .i64 i] ∧ m = rows.length - i ∧ i ≤ rows.length ∧ ∀ y ∈ rows.take i, p y = true, ⟨rows.length, by omega, rfl, 0, rfl, by omega, by omega, by simp⟩, ?_⟩
  intro n2 m3 h4 ⟨e0, i, e, hm', hi, hall⟩
  cases e; subst hm' e0
  -- the end
  have fin : (∀ y, rows[i]? = some y → p y = false) → ∃ a b, sliceOp env.tt 56 v none (some (i : Int)) none = some a ∧ sliceOp env.tt 56 v (some (i : Int)) none none = some b ∧ b.one = true ∧ SlR (h4.put r (.rows 3 [[.int .i64 cap, b, .int .i64 last]] false none none)) 34 a (rows.takeWhile p) ∧ (∀ y, blkOf a = some y → y < (h4.put r (.rows 3 [[.int .i64 cap, b, .int .i64 last]] false none none)).n) ∧ Hs h0 (RdC r cap last (rows.dropWhile p) :: L) (h4.put r (.rows 3 [[.int .i64 cap, b, .int .i64 last]] false none none)) := fun hno => by
    obtain ⟨a, b, c1, c2, c3, c4, c5, c6, _, c7⟩ := q.lst.cut slis56 hi
    obtain ⟨w1, w2⟩ := take_while hi hall hno
    refine ⟨a, b, c1, c2, c7, ?_, ?_, ?_⟩
    · rw [w1]
      rcases c6 with c6 | ⟨c6, c8⟩
      · exact c3.keep fun y hy => get_put_ne _ _ _ _ (fun e => q.rS (e ▸ c6 y hy))
      · subst c6; simpa using c8 _
    · intro y hy; rw [hn_put]; exact c5 y hy
    · rw [w2]
      have kp : Keep h4 (h4.put r (.rows 3 [[.int .i64 cap, b, .int .i64 last]] false none none)) [r] := (Keep.refl h4 _).put (.inr (by simp)) _
      refine o1 _ _ (r :: T) (RdC.ok ..) ⟨b, T, ⟨get_put_same _ _ _, c4.keep kp (fun y hy e => by simp at e; subst e; exact q.rS hy), q.rS, q.rn, fun y hy => q.wide y (List.mem_of_mem_drop hy), q.c1, by simp; omega, c7⟩, rfl⟩ (kp.mono (by simp)) fun y hy => .inl hy
  by_cases hlt : (i : Int) < rows.length
  · obtain ⟨y, hy⟩ : ∃ y, rows[i]? = some y := ⟨rows[i], List.getElem?_eq_getElem (by omega)⟩
    obtain ⟨b1, o1, p1, _, p3, _⟩ := s.idx hy
    obtain ⟨hw, ⟨a, ha⟩, _⟩ := hr y (List.mem_of_getElem? hy)
    have g0 : cellG o1 (h4.get b1) = some (.int .i64 a) := by have := p3 0 (by omega); rw [cellQ_some _ _ _ (by omega), ha] at this; exact this
    have hpy : p y = decide (a ≤ x) := by rw [← hp]; simp only [idI, ha]
    by_cases hax : a ≤ x
    · simp (disch := (first | omega | assumption | rfl | (simp only [hn_new, hn_put, skip_n]; omega))) only [go_sem, heapN, g, s.len, p1, g0]
      refine ⟨rows.length - (i + 1), by omega, rfl, i + 1, by simp, rfl, by omega, fun z hz => ?_⟩
      rw [List.take_add_one, hy] at hz
      rcases List.mem_append.1 hz with hz | hz
      · exact hall z hz
      · simp at hz; subst hz; rw [hpy]; simp [hax]
    · obtain ⟨a', b', f1, f2, f3, f4⟩ := fin fun z hz => by rw [hy] at hz; cases hz; rw [hpy]; simp [hax]
      simp (disch := (first | omega | assumption | rfl | (simp only [hn_new, hn_put, skip_n]; omega))) only [go_sem, heapN, g, s.len, p1, g0, f1, f2]
      exact f4
  · obtain ⟨a', b', f1, f2, f3, f4⟩ := fin fun z hz => by rw [List.getElem?_eq_none (by omega)] at hz; cases hz
    simp (disch := (first | omega | assumption | rfl | (simp only [hn_new, hn_put, skip_n]; omega))) only [go_sem, heapN, g, s.len, f1, f2]
    exact f4
end
end Go.Proofs.Ytpfgbnmeaalpdaa
