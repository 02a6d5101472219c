/-
  Reads: are acts more than is gone through; what an act puts.
-/
import Derived.Test.YtpfgbnmeaalpdaaReadK
namespace Go.Proofs.Ytpfgbnmeaalpdaa
open Go Go.Abs Go.Abs.S Go.Abs.W
set_option maxRecDepth 10000
set_option maxHeartbeats 1000000

/-- an act's cells -/
noncomputable def shA : List Sh := match shapeOf Try.prog 9 22 with
  | some [.sl _ q] => q
  | _ => []
theorem shape22 : shapeOf Try.prog 9 22 = some [.sl 35 shA] := by kernel_rfl
theorem sa0 : nth shA 0 = some (.int .u8) := by kernel_rfl
theorem sa9 : nth shA 9 = some .str := by kernel_rfl
theorem sa10 : nth shA 10 = some .str := by kernel_rfl
theorem sa31 : nth shA 31 = some .str := by kernel_rfl
theorem sa34 : nth shA 34 = some (.int .i64) := by kernel_rfl
theorem sa25 : ∃ q, nth shA 25 = some (.sl 2 q) := by
  have e : nth shA 25 = some (.sl 2 (match nth shA 25 with | some (.sl _ q) => q | _ => [])) := by kernel_rfl
  exact ⟨_, e⟩
theorem salen : shA.length = 35 := by kernel_rfl
theorem saf : shFit [.i, .i, .i, .i, .i, .i, .i, .i, .s, .s, .i] (shA.drop 1) = true := by kernel_rfl
theorem sao : shFit [.i, .s, .s, .i] (shA.drop 8) = true := by kernel_rfl
theorem sax : shFit [.i, .s, .i, .i] (shA.drop 30) = true := by kernel_rfl

theorem great2 {n : Nat} {h : Go.Abs.H} {a : AV} {xs : List (List AV)} (hn : xs.length + 2 ≤ n) (hsl : SlR h 35 a xs) (hrow : ∀ r ∈ xs, ShL h shA r) (hlen : xs.length ≤ 9223372036854775807) (most : Int) :
    ∃ b, callX env sums n 9 [a, .int .i64 most] h = some (.bool b, h) ∧ (b = false → (xs.length : Int) ≤ most) := by
  obtain ⟨n, rfl⟩ : ∃ k, n = k + 1 := ⟨n - 1, by omega⟩
  suffices hh : W.Spec env sums (n + 1) 9 [a, .int .i64 most] h (fun v h' => ∃ b, v = .bool b ∧ h' = h ∧ (b = false → (xs.length : Int) ≤ most)) by
    obtain ⟨v, h', e, b, rfl, rfl, k⟩ := hh
    exact ⟨b, e, k⟩
  refine spec_trN [.v a, .int .i64 most] rfl ft9 (by kernel_rfl) (tn9 ..) ?_
  simp (disch := (first | omega | assumption | rfl | (simp only [hn_new, hn_put, skip_n]; omega))) only [go_sem]
  refine ⟨fun l m h1 => ∃ i : Nat, l = [.int .i64 i] ∧ m = xs.length - i ∧ i ≤ xs.length ∧ h1 = h, ⟨xs.length, by omega, 0, rfl, by omega, by omega, rfl⟩, ?_⟩
  intro n2 m3 h4 ⟨i, e, hm, hi, hh⟩
  cases e; subst hm hh
  by_cases hlt : (i : Int) < xs.length
  · have hlt' : i < xs.length := by omega
    obtain ⟨r, hr⟩ : ∃ r, xs[i]? = some r := ⟨xs[i], List.getElem?_eq_getElem hlt'⟩
    have hsh := hrow r (List.mem_of_getElem? hr)
    obtain ⟨b, o, e1, e2, e3, _⟩ := hsl.idx hr
    obtain ⟨_, f1, s1, rfl, l1⟩ := shl_nth _ _ _ _ hsh sa9
    obtain ⟨_, f2, s2, rfl, l2⟩ := shl_nth _ _ _ _ hsh sa10
    obtain ⟨_, f3, s3, rfl, l3⟩ := shl_nth _ _ _ _ hsh sa31
    obtain ⟨q, hq⟩ := sa25
    obtain ⟨w, f4, hw⟩ := shl_nth _ _ _ _ hsh hq
    obtain ⟨len, hl⟩ := lenS_sh' hw
    have g1 : cellG (o + 1 + 7 + 1) (h4.get b) = some (.str s1) := by have := e3 9 (by omega); rw [cellQ_some _ _ _ (by omega), f1] at this; exact this
    have g2 : cellG (o + 1 + 7 + 2) (h4.get b) = some (.str s2) := by have := e3 10 (by omega); rw [cellQ_some _ _ _ (by omega), f2] at this; exact this
    have g3 : cellG (o + 30 + 1) (h4.get b) = some (.str s3) := by have := e3 31 (by omega); rw [cellQ_some _ _ _ (by omega), f3] at this; exact this
    have g4 : cellG (o + 1 + 23 + 1) (h4.get b) = some w := by have := e3 25 (by omega); rw [cellQ_some _ _ _ (by omega), f4] at this; exact this
    by_cases c1 : (200 : Int) < s1.length
    · simp (disch := (first | omega | assumption | rfl | (simp only [hn_new, hn_put, skip_n]; omega))) only [go_sem, hsl.len, e1, g1]
      exact ⟨true, rfl, fun e => by cases e⟩
    by_cases c2 : (200 : Int) < s2.length
    · simp (disch := (first | omega | assumption | rfl | (simp only [hn_new, hn_put, skip_n]; omega))) only [go_sem, hsl.len, e1, g1, g2]
      exact ⟨true, rfl, fun e => by cases e⟩
    by_cases c3 : (200 : Int) < s3.length
    · simp (disch := (first | omega | assumption | rfl | (simp only [hn_new, hn_put, skip_n]; omega))) only [go_sem, hsl.len, e1, g1, g2, g3]
      exact ⟨true, rfl, fun e => by cases e⟩
    by_cases c4 : (0 : Int) < len
    · simp (disch := (first | omega | assumption | rfl | (simp only [hn_new, hn_put, skip_n]; omega))) only [go_sem, hsl.len, e1, g1, g2, g3, g4, hl]
      exact ⟨true, rfl, fun e => by cases e⟩
    simp (disch := (first | omega | assumption | rfl | (simp only [hn_new, hn_put, skip_n]; omega))) only [go_sem, hsl.len, e1, g1, g2, g3, g4, hl]
    exact ⟨xs.length - (i + 1), by omega, i + 1, by simp, rfl, by omega, rfl⟩
  · simp (disch := (first | omega | assumption | rfl | (simp only [hn_new, hn_put, skip_n]; omega))) only [go_sem, hsl.len]
    exact ⟨_, rfl, fun e => by simp at e; omega⟩

/-! what an act puts -/
section
variable {h : Go.Abs.H} {x : List AV}
theorem act_f (k : ShL h shA x) : FrOk ((x.drop 1).take 29) := by
  have hl : x.length = 35 := by rw [ShL.length k, salen]
  refine ⟨by simp; omega, fun j hj => ?_, ?_, same_sh (shl_take 29 (shl_drop 1 k))⟩
  · rw [nth_part (by omega)]
    have hj' : ([.i, .i, .i, .i, .i, .i, .i, .i, .s, .s, .i] : List FK)[j]? = some .i := by
      have : j = 0 ∨ j = 1 ∨ j = 2 ∨ j = 3 ∨ j = 4 ∨ j = 5 ∨ j = 6 := by omega
      rcases this with rfl | rfl | rfl | rfl | rfl | rfl | rfl <;> rfl
    obtain ⟨v, e, n, rfl⟩ := fits_nth (fits_sh (shl_drop 1 k) saf) hj'
    rw [nth_part (by simp; omega)] at e
    exact ⟨n, e⟩
  · have := fits_sh (shl_drop 8 k) sao
    rw [List.drop_take, List.drop_drop, List.take_take]
    simpa using this
theorem act_x (k : ShL h shA x) : ((x.drop 30).take 4).length = 4 ∧ Fits [.i, .s, .i, .i] ((x.drop 30).take 4) ∧ sameL ((x.drop 30).take 4) ((x.drop 30).take 4) = true := by
  have hl : x.length = 35 := by rw [ShL.length k, salen]
  exact ⟨by simp; omega, fits_sh (shl_drop 30 k) sax, same_sh (shl_take 4 (shl_drop 30 k))⟩
end

/-- rows that were put: their numbers rise -/
noncomputable def idN (x : List AV) : Int := match nth x 0 with
  | some (.int .i64 n) => n
  | _ => 0
structure Good (last : Int) (rows : List (List AV)) : Prop where
  row : ∀ x ∈ rows, RowOk x
  up : rows.Pairwise fun a b => idN a < idN b
  le : ∀ x ∈ rows, idN x ≤ last
theorem row_dl {x : List AV} (k : RowOk x) : x.length = 34 ∧ (∃ a, nth x 0 = some (.int .i64 a)) ∧ ∃ d, nth x 7 = some (.int .i64 d) := by
  obtain ⟨d, hd⟩ := k.fr.ints 6 (by omega)
  rw [nth_part (by omega)] at hd
  exact ⟨k.len, k.id, d, hd⟩
theorem Good.rows {last : Int} {rows : List (List AV)} (k : Good last rows) : Rows rows := fun x hx => row_dl (k.row x hx)
theorem Good.sub {last : Int} {rows s : List (List AV)} (k : Good last rows) (h : s.Sublist rows) : Good last s := ⟨fun x hx => k.row x (h.subset hx), k.up.sublist h, fun x hx => k.le x (h.subset hx)⟩
theorem Good.put {last : Int} {rows : List (List AV)} (k : Good last rows) {f x : List AV} (hf : FrOk f) (hx : x.length = 4) (hx2 : Fits [.i, .s, .i, .i] x) : Good (last + 1) (rows ++ [.int .i64 (last + 1) :: (f ++ x)]) := by
  have hfl := hf.len
  have hid : idN (.int .i64 (last + 1) :: (f ++ x)) = last + 1 := rfl
  have h1 : ((AV.int .i64 (last + 1) :: (f ++ x)).drop 1).take 29 = f := by
    rw [List.drop_succ_cons, List.drop_zero, ← hfl, List.take_left]
  have h2 : ((AV.int .i64 (last + 1) :: (f ++ x)).drop 30).take 4 = x := by
    rw [List.drop_succ_cons, ← hfl, List.drop_left, ← hx, List.take_length]
  refine ⟨fun y hy => ?_, ?_, fun y hy => ?_⟩
  · rcases List.mem_append.1 hy with hy | hy
    · exact k.row y hy
    · rw [List.mem_singleton] at hy; subst hy
      exact ⟨by simp [hfl, hx], ⟨_, rfl⟩, by rw [h1]; exact hf, by rw [h2]; exact hx2⟩
  · rw [List.pairwise_append]
    refine ⟨k.up, by simp, fun a ha b hb => ?_⟩
    rw [List.mem_singleton] at hb; subst hb
    have := k.le a ha
    rw [hid]; omega
  · rcases List.mem_append.1 hy with hy | hy
    · have := k.le y hy; omega
    · rw [List.mem_singleton] at hy; subst hy; rw [hid]; omega
theorem while_up {x : Int} : ∀ {rows : List (List AV)}, Rows rows → rows.Pairwise (fun a b => idN a < idN b) →
    rows.filter (idI fun a => decide (a ≤ x)) = rows.takeWhile (idI fun a => decide (a ≤ x)) ∧ (rows.filter fun y => !idI (fun a => decide (a ≤ x)) y) = rows.dropWhile (idI fun a => decide (a ≤ x))
  | [], _, _ => by simp
  | y :: rows, hr, hp => by
    have hp' := List.pairwise_cons.1 hp
    obtain ⟨e1, e2⟩ := while_up (x := x) (fun z hz => hr z (List.mem_cons_of_mem _ hz)) hp'.2
    have hi : ∀ z ∈ y :: rows, idI (fun a => decide (a ≤ x)) z = decide (idN z ≤ x) := fun z hz => by
      obtain ⟨_, ⟨a, ha⟩, _⟩ := hr z hz
      unfold idI idN; rw [ha]
    cases hy : idI (fun a => decide (a ≤ x)) y with
    | true => simp [hy, e1, e2]
    | false =>
      have hno : ∀ z ∈ rows, idI (fun a => decide (a ≤ x)) z = false := fun z hz => by
        have h1 := hp'.1 z hz
        rw [hi y (by simp)] at hy
        rw [hi z (by simp [hz])]
        simp at hy ⊢; omega
      constructor
      · rw [List.filter_cons_of_neg (by simp [hy]), List.takeWhile_cons_of_neg (by simp [hy]), List.filter_eq_nil_iff]
        intro z hz; simp [hno z hz]
      · rw [List.filter_cons_of_pos (by simp [hy]), List.dropWhile_cons_of_neg (by simp [hy]), List.filter_eq_self.2]
        intro z hz; simp [hno z hz]
theorem lastV_two {rows : List (List AV)} (k : Rows rows) : ∃ a b, lastV rows = .tup [.int .i64 a, .bool b] := by
  unfold lastV
  cases h : rows.getLast? with
  | none => exact ⟨_, _, rfl⟩
  | some x => exact ⟨_, _, rfl⟩
end Go.Proofs.Ytpfgbnmeaalpdaa
