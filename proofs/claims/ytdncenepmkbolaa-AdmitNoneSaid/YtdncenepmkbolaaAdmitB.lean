/-
  Who may wait: what the small functions do.
-/
import Derived.Test.YtdncenepmkbolaaAdmitA
namespace Go.Proofs.Ytdncenepmkbolaa
open Go Go.Abs Go.Abs.S Go.Abs.W
set_option maxRecDepth 10000
set_option maxHeartbeats 2000000
def prs (bs : List (Int × Int)) : List AV := bs.flatMap fun p => [.int .i64 p.1, .int .i64 p.2]
theorem prs_len (bs : List (Int × Int)) : (prs bs).length = bs.length * 2 := by
  induction bs with
  | nil => rfl
  | cons a r ih => simp only [prs, List.flatMap_cons, List.length_append, List.length_cons, List.length_nil] at ih ⊢; omega
theorem prs_split {bs : List (Int × Int)} {k : Nat} {p : Int × Int} (h : bs[k]? = some p) : prs bs = prs (bs.take k) ++ ([.int .i64 p.1, .int .i64 p.2] ++ prs (bs.drop (k + 1))) := by
  have hl := (List.getElem?_eq_some_iff.1 h).1
  have e : bs = bs.take k ++ p :: bs.drop (k + 1) := by
    rw [List.getElem?_eq_getElem hl] at h; cases h
    rw [← List.drop_eq_getElem_cons hl, List.take_append_drop]
  conv => lhs; rw [e]
  simp [prs]
theorem prs_set {bs : List (Int × Int)} {k : Nat} (p : Int × Int) (h : k < bs.length) : prs (bs.set k p) = prs (bs.take k) ++ ([.int .i64 p.1, .int .i64 p.2] ++ prs (bs.drop (k + 1))) := by
  rw [List.set_eq_take_append_cons_drop, if_pos h]
  simp [prs]
theorem take_len {bs : List (Int × Int)} {k : Nat} (h : k ≤ bs.length) : (prs (bs.take k)).length = k * 2 := by rw [prs_len, List.length_take, Nat.min_eq_left h]
section
variable {A B : List AV} {bs : List (Int × Int)} {k : Nat} {p : Int × Int}
theorem prs_nth (h : bs[k]? = some p) : nth (A ++ (prs bs ++ B)) (A.length + k * 2) = some (.int .i64 p.1) ∧ nth (A ++ (prs bs ++ B)) (A.length + k * 2 + 1) = some (.int .i64 p.2) := by
  have hl := (List.getElem?_eq_some_iff.1 h).1
  have ht := take_len (bs := bs) (k := k) (by omega)
  rw [prs_split h]
  constructor
  · rw [nth_eq, List.getElem?_append_right (by omega), List.append_assoc, List.getElem?_append_right (by omega)]
    rw [ht, show A.length + k * 2 - A.length - k * 2 = 0 by omega]; rfl
  · rw [nth_eq, List.getElem?_append_right (by omega), List.append_assoc, List.getElem?_append_right (by omega)]
    rw [ht, show A.length + k * 2 + 1 - A.length - k * 2 = 1 by omega]; rfl
theorem prs_take (h : bs[k]? = some p) : takeN 2 (dropN (A.length + k * 2) (A ++ (prs bs ++ B))) = some [.int .i64 p.1, .int .i64 p.2] := by
  have hl := (List.getElem?_eq_some_iff.1 h).1
  have ht := take_len (bs := bs) (k := k) (by omega)
  rw [prs_split h, dropN_eq, List.drop_append, List.drop_eq_nil_of_le (by omega), List.nil_append, show A.length + k * 2 - A.length = k * 2 by omega, List.append_assoc, List.drop_append, List.drop_eq_nil_of_le (by omega), ht, Nat.sub_self, List.nil_append, List.drop_zero]
  rfl
theorem prs_over (h : k < bs.length) (x y : Int) : atN (over [.int .i64 x, .int .i64 y]) (A.length + k * 2) (A ++ (prs bs ++ B)) = some (A ++ (prs (bs.set k (x, y)) ++ B)) := by
  obtain ⟨p, hp⟩ : ∃ p, bs[k]? = some p := ⟨bs[k], List.getElem?_eq_getElem h⟩
  have ht := take_len (bs := bs) (k := k) (by omega)
  have hl : A.length + k * 2 + 2 ≤ (A ++ (prs bs ++ B)).length := by rw [List.length_append, List.length_append, prs_len]; omega
  rw [atN_put (by simpa using hl), prs_set _ h, prs_split hp]
  have e1 : (A ++ (prs (bs.take k) ++ ([AV.int .i64 p.1, .int .i64 p.2] ++ prs (bs.drop (k + 1))) ++ B)).take (A.length + k * 2) = A ++ prs (bs.take k) := by
    rw [List.take_append, List.take_of_length_le (by omega), show A.length + k * 2 - A.length = k * 2 by omega, List.append_assoc, List.take_append, List.take_of_length_le (by omega), ht, Nat.sub_self, List.take_zero, List.append_nil]
  have e2 : (A ++ (prs (bs.take k) ++ ([AV.int .i64 p.1, .int .i64 p.2] ++ prs (bs.drop (k + 1))) ++ B)).drop (A.length + k * 2 + [AV.int .i64 x, .int .i64 y].length) = prs (bs.drop (k + 1)) ++ B := by
    rw [List.drop_append, List.drop_eq_nil_of_le (by simp; omega), List.nil_append, show A.length + k * 2 + [AV.int .i64 x, .int .i64 y].length - A.length = k * 2 + 2 by simp; omega, List.append_assoc, List.drop_append, List.drop_eq_nil_of_le (by omega), ht, List.nil_append, show k * 2 + 2 - k * 2 = 2 by omega]
    rfl
  rw [e1, e2]; simp
end
def adRow (s : Nat) (cl q : Int) (bs : List (Int × Int)) (ws : List Int) : List AV := [.ptr s 0, .int .i64 cl, .int .i64 q] ++ (prs bs ++ ws.map (AV.int .i64))
/-- who may wait, in one cell -/
abbrev AdC (a s : Nat) (cl q : Int) (bs : List (Int × Int)) (ws : List Int) : Ch := Cell a (.rows 21 [adRow s cl q bs ws] false none none)
abbrev before (a b : Int × Int) : Prop := a.1 < b.1 ∨ a.1 = b.1 ∧ a.2 < b.2
section
variable {h h0 : Go.Abs.H} {n a s k : Nat} {L : List Ch} {cl q : Int} {bs : List (Int × Int)} {ws : List Int} {p : Int × Int}
theorem ad_len (h6 : bs.length = 6) (w6 : ws.length = 6) : (adRow s cl q bs ws).length = 21 := by simp [adRow, prs_len, h6, w6]
theorem within_ok (hn : 1 ≤ n) (x lo hi : Int) (h : Go.Abs.H) : callX env sums n 84 [.int .i64 x, .int .i64 lo, .int .i64 hi] h = some (.bool (decide (lo ≤ x ∧ x ≤ hi)), h) := by
  obtain ⟨n, rfl⟩ : ∃ k, n = k + 1 := ⟨n - 1, by omega⟩
  refine spec_eq (spec_trN [.int .i64 x, .int .i64 lo, .int .i64 hi] rfl ft84 (by kernel_rfl) (tn84 ..) ?_)
  by_cases h1 : lo ≤ x
  · simp (disch := (first | omega | assumption | rfl | (simp only [hn_new, hn_put, skip_n]; omega))) only [go_sem]
    first | done | simp [h1]
  · simp (disch := (first | omega | assumption | rfl | (simp only [hn_new, hn_put, skip_n]; omega))) only [go_sem]
    first | done | simp [h1]
theorem ahead_ok (hn : 1 ≤ n) (x y z w : Int) (h : Go.Abs.H) : ∃ h', callX env sums n 83 [.agg [.int .i64 x, .int .i64 y], .agg [.int .i64 z, .int .i64 w]] h = some (.bool (decide (before (x, y) (z, w))), h') ∧ Keep h h' [] := by
  obtain ⟨n, rfl⟩ : ∃ k, n = k + 1 := ⟨n - 1, by omega⟩
  refine ⟨_, ?_, ((Keep.refl h _).new (.rows 2 [[.int .i64 x, .int .i64 y]] false none none)).new (.rows 2 [[.int .i64 z, .int .i64 w]] false none none)⟩
  refine spec_eq (spec_trN [.agg [.int .i64 x, .int .i64 y], .agg [.int .i64 z, .int .i64 w]] rfl ft83 (by kernel_rfl) (tn83 ..) ?_)
  by_cases h1 : x < z
  · simp (disch := (first | omega | assumption | rfl | (simp only [hn_new, hn_put, skip_n]; omega))) only [go_sem, heapN]
    first | done | simp [before, h1]
  · by_cases h2 : x = z
    · subst h2
      simp (disch := (first | omega | assumption | rfl | (simp only [hn_new, hn_put, skip_n]; omega))) only [go_sem, heapN]
      first | done | simp [before]
    · simp (disch := (first | omega | assumption | rfl | (simp only [hn_new, hn_put, skip_n]; omega))) only [go_sem, heapN]
      first | done | simp [before, h1, h2]
theorem eqn95 (b o : Nat) : binop env .eql 95 (.ptr b o) .nilp = some (.bool false) := by kernel_rfl
theorem adm_none (hn : 1 ≤ n) (k : Hs h0 (AdC a s cl q bs ws :: L) h) : callX env sums n 81 [.ptr a 0] h = some (.bool false, h) := by
  obtain ⟨n, rfl⟩ : ∃ k, n = k + 1 := ⟨n - 1, by omega⟩
  have g := k.get
  have g0 : cellG 0 (h.get a) = some (.ptr s 0) := by rw [g, cellG_one _ _ _ _ _ _ (by omega) (by omega)]; rfl
  refine spec_eq (spec_trN [.ptr a 0] rfl ft81 (by kernel_rfl) (tn81 ..) ?_)
  simp (disch := (first | omega | assumption | rfl | (simp only [hn_new, hn_put, skip_n]; omega))) only [go_sem, eqn95, eqn64, g0]
theorem adm_known (hn : 2 ≤ n) (k : Hs h0 (AdC a s cl q bs ws :: L) h) (hc : 1 ≤ cl ∧ cl ≤ 6) (x y z : Int) : callX env sums n 82 [.ptr a 0, .int .i64 x, .int .i64 y, .int .i64 z] h = some (.bool (decide ((0 ≤ x ∧ x ≤ cl - 1) ∧ (1 ≤ y ∧ y ≤ 1099511627776) ∧ (1 ≤ z ∧ z ≤ 1099511627776))), h) := by
  obtain ⟨n, rfl⟩ : ∃ k, n = k + 1 := ⟨n - 1, by omega⟩
  have g1 : cellG 1 (h.get a) = some (.int .i64 cl) := by rw [k.get, cellG_one _ _ _ _ _ _ (by omega) (by omega)]; rfl
  refine spec_eq (spec_trN [.ptr a 0, .int .i64 x, .int .i64 y, .int .i64 z] rfl ft82 (by kernel_rfl) (tn82 ..) ?_)
  by_cases h1 : 0 ≤ x ∧ x ≤ cl - 1
  · have d1 : decide (0 ≤ x ∧ x ≤ cl - 1) = true := decide_eq_true h1
    by_cases h2 : 1 ≤ y ∧ y ≤ 1099511627776
    · have d2 : decide (1 ≤ y ∧ y ≤ 1099511627776) = true := decide_eq_true h2
      simp (disch := (first | omega | assumption | rfl | (simp only [hn_new, hn_put, skip_n]; omega))) only [go_sem, g1, within_ok (n := n) (by omega), d1, d2]
      first | done | simp [h1, h2]
    · have d2 : decide (1 ≤ y ∧ y ≤ 1099511627776) = false := decide_eq_false h2
      simp (disch := (first | omega | assumption | rfl | (simp only [hn_new, hn_put, skip_n]; omega))) only [go_sem, g1, within_ok (n := n) (by omega), d1, d2]
      first | done | simp [h2]
  · have d1 : decide (0 ≤ x ∧ x ≤ cl - 1) = false := decide_eq_false h1
    simp (disch := (first | omega | assumption | rfl | (simp only [hn_new, hn_put, skip_n]; omega))) only [go_sem, g1, within_ok (n := n) (by omega), d1]
    first | done | simp [h1]
theorem ad_load {i : Nat} (k : Hs h0 (AdC a s cl q bs ws :: L) h) (h6 : bs.length = 6) (hp : bs[i]? = some p) : loadG (3 + i * 2) 2 (h.get a) = some [.int .i64 p.1, .int .i64 p.2] := by
  have hl := (List.getElem?_eq_some_iff.1 hp).1
  rw [k.get, loadG_part _ _ _ _ _ _ _ (by omega) (by omega)]
  exact prs_take (A := [.ptr s 0, .int .i64 cl, .int .i64 q]) hp
theorem ad_store {i : Nat} (k : Hs h0 (AdC a s cl q bs ws :: L) h) (h6 : bs.length = 6) (hi : i < 6) (x y : Int) : ∃ h', storeB h a (3 + i * 2) [.int .i64 x, .int .i64 y] (h.get a) = some h' ∧ Hs h0 (AdC a s cl q (bs.set i (x, y)) ws :: L) h' ∧ Keep h h' [a] := by
  refine ⟨h.put a (.rows 21 [adRow s cl q (bs.set i (x, y)) ws] false none none), ?_, k.put _, (Keep.refl h _).put (.inr (by simp)) _⟩
  have := prs_over (A := [.ptr s 0, .int .i64 cl, .int .i64 q]) (B := ws.map (AV.int .i64)) (bs := bs) (k := i) (by omega) x y
  rw [k.get, storeB_rows, storeG_one _ _ _ _ (by omega)]
  unfold adRow
  rw [show 3 + i * 2 = [AV.ptr s 0, .int .i64 cl, .int .i64 q].length + i * 2 from rfl, this]
theorem arr6 {i : Nat} (hi : i < 6) : arrI 6 (i : Int) = some i := by
  have : i = 0 ∨ i = 1 ∨ i = 2 ∨ i = 3 ∨ i = 4 ∨ i = 5 := by omega
  rcases this with rfl | rfl | rfl | rfl | rfl | rfl <;> rfl
/-- what Bar makes of the tries that are barred -/
def barB (bs : List (Int × Int)) (i : Nat) (x : Int × Int) : List (Int × Int) := match bs[i]? with
  | some p => if before p x then bs.set i x else bs
  | none => bs
theorem barB_len (bs : List (Int × Int)) (i : Nat) (x : Int × Int) : (barB bs i x).length = bs.length := by
  unfold barB; split
  · split <;> simp
  · rfl
theorem adm_bar {i : Nat} (hn : 3 ≤ n) (k : Hs h0 (AdC a s cl q bs ws :: L) h) (hc : 1 ≤ cl ∧ cl ≤ 6) (h6 : bs.length = 6) (hi : (i : Int) < cl) {x y : Int} (hx : 1 ≤ x ∧ x ≤ 1099511627776) (hy : 1 ≤ y ∧ y ≤ 1099511627776) :
    ∃ h', callX env sums n 51 [.ptr a 0, .int .i64 i, .int .i64 x, .int .i64 y] h = some (.int .i64 0, h') ∧ Hs h0 (AdC a s cl q (barB bs i (x, y)) ws :: L) h' := by
  obtain ⟨n, rfl⟩ : ∃ k, n = k + 1 := ⟨n - 1, by omega⟩
  suffices hh : W.Spec env sums (n + 1) 51 [.ptr a 0, .int .i64 i, .int .i64 x, .int .i64 y] h (fun r h' => r = .int .i64 0 ∧ Hs h0 (AdC a s cl q (barB bs i (x, y)) ws :: L) h') by
    obtain ⟨r, h', e, rfl, q⟩ := hh; exact ⟨h', e, q⟩
  obtain ⟨p, hp⟩ : ∃ p, bs[i]? = some p := ⟨bs[i]'(by omega), List.getElem?_eq_getElem _⟩
  have hb : barB bs i (x, y) = if before p (x, y) then bs.set i (x, y) else bs := by unfold barB; rw [hp]
  have hk : decide ((0 ≤ (i : Int) ∧ (i : Int) ≤ cl - 1) ∧ (1 ≤ x ∧ x ≤ 1099511627776) ∧ (1 ≤ y ∧ y ≤ 1099511627776)) = true := decide_eq_true (by omega)
  have ar := arr6 (i := i) (by omega)
  refine spec_trN [.ptr a 0, .int .i64 i, .int .i64 x, .int .i64 y] rfl ft51 (by kernel_rfl) (tn51 ..) ?_
  simp (disch := (first | omega | assumption | rfl | (simp only [hn_new, hn_put, skip_n]; omega))) only [go_sem, adm_none (n := n) (by omega) k, adm_known (n := n) (by omega) k hc, hk, ar, ad_load k h6 hp]
  refine on2_ex (ahead_ok (n := n) (by omega) p.1 p.2 x y h) fun h9 kp => ?_
  have k9 := k.more kp
  rw [hb]
  by_cases hbf : before p (x, y)
  · obtain ⟨h12, s1, s2, _⟩ := ad_store k9 h6 (i := i) (by omega) x y
    rw [if_pos hbf, decide_eq_true hbf]
    simp (disch := (first | omega | assumption | rfl | (simp only [hn_new, hn_put, skip_n]; omega))) only [go_sem, s1]
    exact s2
  · rw [if_neg hbf, decide_eq_false hbf]
    simp (disch := (first | omega | assumption | rfl | (simp only [hn_new, hn_put, skip_n]; omega))) only [go_sem]
    exact k9
theorem adm_bar_arg (hn : 3 ≤ n) (k : Hs h0 (AdC a s cl q bs ws :: L) h) (hc : 1 ≤ cl ∧ cl ≤ 6) {z x y : Int} (hz : ¬ ((0 ≤ z ∧ z ≤ cl - 1) ∧ (1 ≤ x ∧ x ≤ 1099511627776) ∧ (1 ≤ y ∧ y ≤ 1099511627776))) : callX env sums n 51 [.ptr a 0, .int .i64 z, .int .i64 x, .int .i64 y] h = some (.int .i64 2, h) := by
  obtain ⟨n, rfl⟩ : ∃ k, n = k + 1 := ⟨n - 1, by omega⟩
  refine spec_eq (spec_trN [.ptr a 0, .int .i64 z, .int .i64 x, .int .i64 y] rfl ft51 (by kernel_rfl) (tn51 ..) ?_)
  simp (disch := (first | omega | assumption | rfl | (simp only [hn_new, hn_put, skip_n]; omega))) only [go_sem, adm_none (n := n) (by omega) k, adm_known (n := n) (by omega) k hc, decide_eq_false hz]
theorem adm_barred {i : Nat} (hn : 3 ≤ n) (k : Hs h0 (AdC a s cl q bs ws :: L) h) (hc : 1 ≤ cl ∧ cl ≤ 6) (h6 : bs.length = 6) (hi : (i : Int) < cl) (hp : bs[i]? = some p) (x y : Int) :
    ∃ h', callX env sums n 52 [.ptr a 0, .int .i64 i, .int .i64 x, .int .i64 y] h = some (.bool (!decide (before p (x, y))), h') ∧ Keep h h' [] := by
  obtain ⟨n, rfl⟩ : ∃ k, n = k + 1 := ⟨n - 1, by omega⟩
  obtain ⟨h', e, kp⟩ := ahead_ok (n := n) (by omega) p.1 p.2 x y h
  have hk : decide (0 ≤ (i : Int) ∧ (i : Int) ≤ cl - 1) = true := decide_eq_true (by omega)
  have ar := arr6 (i := i) (by omega)
  have g1 : cellG 1 (h.get a) = some (.int .i64 cl) := by rw [k.get, cellG_one _ _ _ _ _ _ (by omega) (by omega)]; rfl
  refine ⟨h', ?_, kp⟩
  refine spec_eq (spec_trN [.ptr a 0, .int .i64 i, .int .i64 x, .int .i64 y] rfl ft52 (by kernel_rfl) (tn52 ..) ?_)
  simp (disch := (first | omega | assumption | rfl | (simp only [hn_new, hn_put, skip_n]; omega))) only [go_sem, adm_none (n := n) (by omega) k, g1, within_ok (n := n) (by omega), hk, ar, ad_load k h6 hp, e]
theorem adm_barred_no (hn : 3 ≤ n) (k : Hs h0 (AdC a s cl q bs ws :: L) h) (hc : 1 ≤ cl ∧ cl ≤ 6) {z : Int} (hz : ¬ (0 ≤ z ∧ z ≤ cl - 1)) (x y : Int) : callX env sums n 52 [.ptr a 0, .int .i64 z, .int .i64 x, .int .i64 y] h = some (.bool false, h) := by
  obtain ⟨n, rfl⟩ : ∃ k, n = k + 1 := ⟨n - 1, by omega⟩
  have g1 : cellG 1 (h.get a) = some (.int .i64 cl) := by rw [k.get, cellG_one _ _ _ _ _ _ (by omega) (by omega)]; rfl
  refine spec_eq (spec_trN [.ptr a 0, .int .i64 z, .int .i64 x, .int .i64 y] rfl ft52 (by kernel_rfl) (tn52 ..) ?_)
  simp (disch := (first | omega | assumption | rfl | (simp only [hn_new, hn_put, skip_n]; omega))) only [go_sem, adm_none (n := n) (by omega) k, g1, within_ok (n := n) (by omega), decide_eq_false hz]
end
end Go.Proofs.Ytdncenepmkbolaa
