/-
  History: what each of the program's functions does.
-/
import Derived.Test.YtpfgbnmeaalpdaaAbsN
import Derived.Test.YtpfgbnmeaalpdaaTh
import Derived.Test.YtpfgbnmeaalpdaaSum
namespace Go.Proofs.Ytpfgbnmeaalpdaa
open Go Go.Abs Go.Abs.S Go.Abs.W
set_option maxRecDepth 10000
set_option maxHeartbeats 1000000

theorem eqn67 (b o : Nat) : binop env .eql 67 (.ptr b o) .nilp = some (.bool false) := by kernel_rfl
theorem eqn111 (b o : Nat) : binop env .eql 111 (.ptr b o) .nilp = some (.bool false) := by kernel_rfl
theorem nqn111 (b o : Nat) : binop env .neq 111 (.ptr b o) .nilp = some (.bool true) := by kernel_rfl
theorem eqz111 : binop env .eql 111 .nilp .nilp = some (.bool true) := by kernel_rfl
theorem nqz111 : binop env .neq 111 .nilp .nilp = some (.bool false) := by kernel_rfl

/-- a record's cells -/
abbrev RK : List FK := [.i, .i, .i, .s, .s, .i, .i, .i, .i, .i, .i, .s, .i, .i]
abbrev OK6 : List FK := [.i, .i, .i, .s, .i, .i]
/-- the history's own row -/
def hiRow (v : AV) (E : Int) (ls : Nat → Int) : List AV := [.bool true, v, .int .i64 E, .int .i64 (ls 0), .int .i64 (ls 1), .int .i64 (ls 2), .int .i64 (ls 3), .int .i64 (ls 4), .int .i64 (ls 5)]
def upd (ls : Nat → Int) (k : Nat) (x : Int) : Nat → Int := fun j => if j = k then x else ls j
section
variable (v a : AV) (E x : Int) (ls : Nat → Int)
theorem hi_len : (hiRow v E ls).length = 9 := rfl
theorem hi_0 : nth (hiRow v E ls) 0 = some (.bool true) := rfl
theorem hi_1 : nth (hiRow v E ls) 1 = some v := rfl
theorem hi_2 : nth (hiRow v E ls) 2 = some (.int .i64 E) := rfl
theorem hi_k {k : Nat} (hk : k < 6) : nth (hiRow v E ls) (3 + k * 1) = some (.int .i64 (ls k)) := by
  have : k = 0 ∨ k = 1 ∨ k = 2 ∨ k = 3 ∨ k = 4 ∨ k = 5 := by omega
  rcases this with rfl | rfl | rfl | rfl | rfl | rfl <;> rfl
theorem hi_s1 : atN (over [a]) 1 (hiRow v E ls) = some (hiRow a E ls) := rfl
theorem hi_s2 : atN (over [.int .i64 x]) 2 (hiRow v E ls) = some (hiRow v x ls) := rfl
theorem hi_sk {k : Nat} (hk : k < 6) : atN (over [.int .i64 x]) (3 + k * 1) (hiRow v E ls) = some (hiRow v E (upd ls k x)) := by
  have : k = 0 ∨ k = 1 ∨ k = 2 ∨ k = 3 ∨ k = 4 ∨ k = 5 := by omega
  rcases this with rfl | rfl | rfl | rfl | rfl | rfl <;> rfl
end
theorem arr_nat {n k : Nat} (h : k < n) : arrI n (k : Int) = some k := by simp only [arrI, natOf_ofNat, blt_t h]

section
variable {h0 h : Go.Abs.H} {L : List Ch} {n : Nat} {r : Nat} {E c s : Int} {v : AV} {rs : List (List AV)} {ls : Nat → Int}
/-- the history's own block -/
abbrev HiC (r : Nat) (v : AV) (E : Int) (ls : Nat → Int) : Ch := Cell r (.rows 9 [hiRow v E ls] false none none)

theorem hnone (hn : 1 ≤ n) (k : Hs h0 (HiC r v E ls :: L) h) : callX env sums n 63 [.ptr r 0] h = some (.bool false, h) := by
  obtain ⟨n, rfl⟩ : ∃ k, n = k + 1 := ⟨n - 1, by omega⟩
  have g := k.get
  refine spec_eq (spec_trN [.ptr r 0] rfl ft63 (by kernel_rfl) (tn63 ..) ?_)
  simp (disch := (first | omega | assumption | rfl | (simp only [hn_new, hn_put, skip_n]; omega))) only [go_sem, eqn67, g, hi_0]
theorem hnew (hn : 1 ≤ n) : callX env sums n 28 [] h = some (.ptr h.n 0, h.new (.rows 9 [hiRow .nils 0 fun _ => 0] false none none)) := by
  obtain ⟨n, rfl⟩ : ∃ k, n = k + 1 := ⟨n - 1, by omega⟩
  refine spec_eq (spec_trN [] rfl ft28 (by kernel_rfl) (tn28 ..) ?_)
  simp (disch := (first | omega | assumption | rfl | (simp only [hn_new, hn_put, skip_n]; omega))) only [go_sem]
  rfl
theorem hevents (hn : 2 ≤ n) (k : Hs h0 (HiC r v E ls :: L) h) : callX env sums n 32 [.ptr r 0] h = some (.int .i64 E, h) := by
  obtain ⟨n, rfl⟩ : ∃ k, n = k + 1 := ⟨n - 1, by omega⟩
  have g := k.get
  refine spec_eq (spec_trN [.ptr r 0] rfl ft32 (by kernel_rfl) (tn32 ..) ?_)
  simp (disch := (first | omega | assumption | rfl | (simp only [hn_new, hn_put, skip_n]; omega))) only [go_sem, hnone (n := n) (by omega) k, g, hi_2]
theorem hevent (hn : 1 ≤ n) (k : Hs h0 (HiC r v E ls :: L) h) (hE : 0 ≤ E ∧ E ≤ 1000000) : callX env sums n 65 [.ptr r 0] h = some (.int .i64 E, h.put r (.rows 9 [hiRow v (E + 1) ls] false none none)) := by
  obtain ⟨n, rfl⟩ : ∃ k, n = k + 1 := ⟨n - 1, by omega⟩
  have g := k.get
  have e : E + 1 - 1 = E := by omega
  refine spec_eq (spec_trN [.ptr r 0] rfl ft65 (by kernel_rfl) (tn65 ..) ?_)
  simp (disch := (first | omega | assumption | rfl | (simp only [hn_new, hn_put, skip_n]; omega))) only [go_sem, g, hi_2, hi_s2, e]
theorem hof_none (hn : 1 ≤ n) (k : Hs h0 (HiC r v E ls :: L) h) (hc : c < 0 ∨ 6 ≤ c ∨ ∃ j : Nat, c = j ∧ j < 6 ∧ ls j = 0) : callX env sums n 64 [.ptr r 0, .int .i64 c] h = some (.nilp, h) := by
  obtain ⟨n, rfl⟩ : ∃ k, n = k + 1 := ⟨n - 1, by omega⟩
  have g := k.get
  refine spec_eq (spec_trN [.ptr r 0, .int .i64 c] rfl ft64 (by kernel_rfl) (tn64 ..) ?_)
  by_cases h1 : c < 0
  · simp (disch := (first | omega | assumption | rfl | (simp only [hn_new, hn_put, skip_n]; omega))) only [go_sem]
  by_cases h2 : 6 ≤ c
  · simp (disch := (first | omega | assumption | rfl | (simp only [hn_new, hn_put, skip_n]; omega))) only [go_sem]
  obtain ⟨j, rfl, hj, hl⟩ : ∃ j : Nat, c = j ∧ j < 6 ∧ ls j = 0 := by
    rcases hc with h | h | h
    · exact absurd h h1
    · exact absurd h h2
    · exact h
  simp (disch := (first | omega | assumption | rfl | (simp only [hn_new, hn_put, skip_n]; omega))) only [go_sem, arr_nat hj, g, hi_k _ _ _ hj, hl]
theorem hof_some (hn : 1 ≤ n) (k : Hs h0 (HiC r v E ls :: L) h) {j i b o : Nat} (hj : j < 6) (hl : ls j = i + 1) (hi : i ≤ 1000000) (hx : idxS 14 v (i : Int) = some (b, o)) : callX env sums n 64 [.ptr r 0, .int .i64 j] h = some (.ptr b o, h.skip 13) := by
  obtain ⟨n, rfl⟩ : ∃ k, n = k + 1 := ⟨n - 1, by omega⟩
  have g := k.get
  have h1 : ¬ (j : Int) < 0 := by omega
  have h2 : ¬ 6 ≤ (j : Int) := by omega
  have h3 : ¬ ((i : Int) + 1 = 0) := by omega
  have e : (i : Int) + 1 - 1 = i := by omega
  refine spec_eq (spec_trN [.ptr r 0, .int .i64 j] rfl ft64 (by kernel_rfl) (tn64 ..) ?_)
  simp (disch := (first | omega | assumption | rfl | (simp only [hn_new, hn_put, skip_n]; omega))) only [go_sem, arr_nat hj, g, hi_k _ _ _ hj, hl, hi_1, e, hx]
/-- ops.Check: some number -/
theorem valued_ok (hn : 1 ≤ n) (x : Int) : ∃ b, callX env sums n 71 [.int .i64 x] h = some (.bool b, h) := by
  obtain ⟨n, rfl⟩ : ∃ k, n = k + 1 := ⟨n - 1, by omega⟩
  by_cases h1 : x = 2
  · refine ⟨true, ?_⟩
    refine spec_eq (spec_trN [.int .i64 x] rfl ft71 (by kernel_rfl) (tn71 ..) ?_)
    simp (disch := (first | omega | assumption | rfl | (simp only [hn_new, hn_put, skip_n]; omega))) only [go_sem]
  · refine ⟨decide (x = 4), ?_⟩
    refine spec_eq (spec_trN [.int .i64 x] rfl ft71 (by kernel_rfl) (tn71 ..) ?_)
    simp (disch := (first | omega | assumption | rfl | (simp only [hn_new, hn_put, skip_n]; omega))) only [go_sem]
theorem check_ok (hn : 2 ≤ n) {cs : List AV} (hf : Fits [.i, .s, .s, .i] cs) : ∃ e h', callX env sums n 66 [.agg cs] h = some (.int .i64 e, h') ∧ Keep h h' [] := by
  obtain ⟨n, rfl⟩ : ∃ k, n = k + 1 := ⟨n - 1, by omega⟩
  obtain ⟨_, _, rfl, ⟨k, rfl⟩, _, _, rfl, ⟨s, rfl⟩, _, _, rfl, ⟨t, rfl⟩, _, _, rfl, ⟨w, rfl⟩, rfl⟩ := hf
  suffices hh : W.Spec env sums (n + 1) 66 [.agg [.int .i64 k, .str s, .str t, .int .i64 w]] h (fun a h' => (∃ e, a = .int .i64 e) ∧ Keep h h' []) by
    obtain ⟨a, h', e, ⟨x, rfl⟩, q⟩ := hh; exact ⟨x, h', e, q⟩
  have kp : Keep h (h.new (.rows 4 [[.int .i64 k, .str s, .str t, .int .i64 w]] false none none)) [] := (Keep.refl h _).new _
  have fin : ∀ x : Int, (∃ e, AV.int .i64 x = .int .i64 e) ∧ Keep h (h.new (.rows 4 [[.int .i64 k, .str s, .str t, .int .i64 w]] false none none)) [] := fun x => ⟨⟨x, rfl⟩, kp⟩
  refine spec_trN [.agg [.int .i64 k, .str s, .str t, .int .i64 w]] rfl ft66 (by kernel_rfl) (tn66 ..) ?_
  obtain ⟨b, hb⟩ := valued_ok (n := n) (h := h.new (.rows 4 [[.int .i64 k, .str s, .str t, .int .i64 w]] false none none)) (by omega) k
  repeat' first | exact fin _ | refine ask_of ?_ ?_ | refine on2_eq hb ?_ | simp (disch := (first | omega | assumption | rfl | (simp only [hn_new, hn_put, skip_n]; omega))) only [go_sem]
end
end Go.Proofs.Ytpfgbnmeaalpdaa
