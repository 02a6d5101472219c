/-
  Rings: what each of the program's functions does with frames that have no members (2).
-/
import Derived.Test.YtdncenepmkbolaaRingA
namespace Go.Proofs.Ytdncenepmkbolaa
open Go Go.Abs Go.Abs.S Go.Abs.W
set_option maxRecDepth 10000
set_option maxHeartbeats 1000000

theorem mod_two {a N : Nat} (h : a < 2 * N) : a % N = if a < N then a else a - N := by
  by_cases hl : a < N
  · rw [if_pos hl, Nat.mod_eq_of_lt hl]
  · rw [if_neg hl, Nat.mod_eq_sub_mod (by omega), Nat.mod_eq_of_lt (by omega)]

variable {h : Go.Abs.H} {n : Nat} {r P N first : Nat} {rs : List (List AV)} {fs : List Fr}

/-- frames as they were, up to members that are none -/
def Alike (a b : List Fr) : Prop := a.map (fun f => (f.p, f.q)) = b.map (fun f => (f.p, f.q))

theorem push_no (hn : 3 ≤ n) (k : RingAt h r P N first rs fs) (hf : N ≤ fs.length) (f : Fr) : ∃ h', callX env sums n 16 [.ptr r 0, .agg f.cs] h = some (.bool false, h') ∧ Keep h h' [] := by
  obtain ⟨n, rfl⟩ : ∃ k, n = k + 1 := ⟨n - 1, by omega⟩
  have k1 : Keep h (h.new (.rows 29 [f.cs] false none none)) [] := (Keep.refl h _).new _
  refine ⟨_, ?_, k1⟩
  refine spec_eq (spec_tr [.ptr r 0, .agg f.cs] rfl ft16 (by kernel_rfl) (tr16 ..) ?_)
  simp (disch := (first | omega | assumption | rfl | (simp only [hn_new, hn_put, skip_n]; omega))) only [go_sem, heapN, f.len, len_ok (n := n) (by omega) (k.keep k1), cap_ok (n := n) (by omega) (k.keep k1)]

theorem push_ok (hn : 3 ≤ n) (k : RingAt h r P N first rs fs) (hf : fs.length < N) (f : Fr) : ∃ (g : Fr) (rs' : List (List AV)) (h' : Go.Abs.H), callX env sums n 16 [.ptr r 0, .agg f.cs] h = some (.bool true, h') ∧ f.same g ∧ RingAt h' r P N first rs' (fs ++ [g]) ∧ Keep h h' [r, P] := by
  obtain ⟨n, rfl⟩ : ∃ k, n = k + 1 := ⟨n - 1, by omega⟩
  obtain ⟨h1, e1⟩ : ∃ h1, h.new (.rows 29 [f.cs] false none none) = h1 := ⟨_, rfl⟩
  have k1 : Keep h h1 [] := e1 ▸ (Keep.refl h _).new _
  have hb : h1.get h.n = some (.rows 29 [f.cs] false none none) := e1 ▸ get_new_same _ _
  have hbn : h1.n = h.n + 1 := by rw [← e1]; rfl
  have r1 := k.keep k1
  have r2 : RingAt (h1.skip 14) r P N first rs fs := r1.keep ((Keep.refl h1 _).skip _)
  have hb2 : ((h1.skip 14).skip 13).get h.n = some (.rows 29 [f.cs] false none none) := hb
  obtain ⟨g, h2, e2, sg, k2⟩ := own_ok (h := h1.skip (14 + 13)) (n := n) (by omega) f
  have k2' : Keep h1 h2 [] := (((Keep.refl h1 _).skip _).trans k2)
  have r3 := r1.keep k2'
  have hr2 := r2.ring
  have hr1 := r1.ring
  have hr3 := r3.ring
  have hp3 := r3.places
  have n1 := k.n1
  have n2 := k.n2
  have f1 := k.f1
  obtain ⟨pl, hpl⟩ : ∃ pl, (first + fs.length) % N = pl := ⟨_, rfl⟩
  have hplN : pl < N := by rw [← hpl]; exact Nat.mod_lt _ (by omega)
  have lr := k.len
  have hst : storeG (pl * 29) g.cs 29 rs = some (rs.set pl g.cs) := storeG_row (by omega) k.wide g.len (by omega)
  have hix : idxS 29 (.sl P 0 N N) (pl : Int) = some (P, pl * 29) := by rw [idx_sl (by omega) (by omega)]; rfl
  have hrP := k.ne
  have hPr : P ≠ r := fun e => hrP e.symm
  have hbh : h2.get h.n = some (.rows 29 [f.cs] false none none) := by rw [k2'.2 h.n (by omega) (by simp)]; exact hb
  have sl1 := f.refl
  refine ⟨g, rs.set pl g.cs, (h2.put P (.rows 29 (rs.set pl g.cs) false none none)).put r (.rows 3 [[.sl P 0 N N, .int .i64 first, .int .i64 (fs.length + 1)]] false none none), ?_, sg, ?_, ?_⟩
  · refine spec_eq (spec_tr [.ptr r 0, .agg f.cs] rfl ft16 (by kernel_rfl) (tr16 ..) ?_)
    simp (disch := (first | omega | assumption | rfl | (simp only [hn_new, hn_put, skip_n]; omega))) only [go_sem, heapN, f.len, e1, len_ok (n := n) (by omega) r1, cap_ok (n := n) (by omega) r1, place_ok (n := n) (by omega) r2 fs.length (by omega), hr1, hb, e2, hpl, hix, g.len, hp3, hst, hr3, hPr, hrP, sl1]
  · refine ⟨?_, ?_, by rw [List.length_set]; exact lr, ?_, n1, n2, f1, by rw [List.length_append]; simp; omega, ?_, hrP, ?_, ?_⟩
    · rw [get_put_same, show (((fs ++ [g]).length : Nat) : Int) = (fs.length : Int) + 1 by simp]
    · rw [get_put_ne _ _ _ _ hPr, get_put_same]
    · intro x hx
      rcases List.mem_or_eq_of_mem_set hx with hx | rfl
      · exact k.wide x hx
      · exact g.len
    · intro i f' hi
      rw [List.getElem?_append] at hi
      split at hi
      · rename_i hlt
        rw [List.getElem?_set_ne (by rw [← hpl, mod_two (by omega), mod_two (by omega)]; split <;> split <;> omega)]
        exact k.at' i f' hi
      · rename_i hlt
        have hi0 : i - fs.length = 0 := by
          rcases Nat.eq_zero_or_pos (i - fs.length) with h | h
          · exact h
          · rw [List.getElem?_eq_none (by simp; omega)] at hi; cases hi
        rw [hi0] at hi
        simp at hi
        subst hi
        have : i = fs.length := by omega
        subst this
        rw [hpl, List.getElem?_set_self (by omega)]
    · rw [hn_put, hn_put]; exact r3.rn
    · rw [hn_put, hn_put]; exact r3.pn
  · exact (((k1.trans k2').mono (by simp)).put (.inr (by simp)) _).put (.inr (by simp)) _

/-- one of a ring's frames, in a copy -/
theorem at_ok (hn : 4 ≤ n) (k : RingAt h r P N first rs fs) {i : Nat} {f : Fr} (hf : fs[i]? = some f) : ∃ (g : Fr) (h' : Go.Abs.H), callX env sums n 24 [.ptr r 0, .int .i64 i] h = some (.tup [.agg g.cs, .bool true], h') ∧ f.same g ∧ Keep h h' [] := by
  obtain ⟨n, rfl⟩ : ∃ k, n = k + 1 := ⟨n - 1, by omega⟩
  obtain ⟨h1, e1⟩ : ∃ h1, h.new (.rows 29 [zeroC] false none none) = h1 := ⟨_, rfl⟩
  have k1 : Keep h h1 [] := e1 ▸ (Keep.refl h _).new _
  have hb : h1.get h.n = some (.rows 29 [zeroC] false none none) := e1 ▸ get_new_same _ _
  have hbn : h1.n = h.n + 1 := by rw [← e1]; rfl
  have r1 := k.keep k1
  have r2 : RingAt (h1.skip 12) r P N first rs fs := r1.keep ((Keep.refl h1 _).skip _)
  obtain ⟨g, h2, e2, sg, k2⟩ := own_ok (h := h1.skip (12 + 13)) (n := n) (by omega) f
  have k2' : Keep h1 h2 [] := (((Keep.refl h1 _).skip _).trans k2)
  have hr1 := r1.ring
  have hp1 := r1.places
  have n1 := k.n1
  have n2 := k.n2
  have f1 := k.f1
  have m1 := k.m1
  have hil : i < fs.length := (List.getElem?_eq_some_iff.1 hf).1
  obtain ⟨pl, hpl⟩ : ∃ pl, (first + i) % N = pl := ⟨_, rfl⟩
  have hplN : pl < N := by rw [← hpl]; exact Nat.mod_lt _ (by omega)
  have hrow : rs[pl]? = some f.cs := hpl ▸ k.at' i f hf
  have hld : loadG (pl * 29) 29 (some (.rows 29 rs false none none)) = some f.cs := by rw [loadG_row _ _ _ _ _ _ (by omega), nth_eq, hrow]
  have hix : idxS 29 (.sl P 0 N N) (pl : Int) = some (P, pl * 29) := by rw [idx_sl (by omega) (by omega)]; rfl
  have hbh : h2.get h.n = some (.rows 29 [zeroC] false none none) := by rw [k2'.2 h.n (by omega) (by simp)]; exact hb
  have hov : over g.cs zeroC = some g.cs := over_full g.len
  have hps : sameV (.sl P 0 N N) (.sl P 0 N N) = true := by simp [sameV]
  refine ⟨g, h2.put h.n (.rows 29 [g.cs] false none none), ?_, sg, ((k1.trans k2').put (.inl (Nat.le_refl _)) _)⟩
  refine spec_eq (spec_tr [.ptr r 0, .int .i64 i] rfl ft24 (by kernel_rfl) (tr24 ..) ?_)
  simp (disch := (first | omega | assumption | rfl | (simp only [hn_new, hn_put, skip_n]; omega))) only [go_sem, heapN, e1, len_ok (n := n) (by omega) r1, place_ok (n := n) (by omega) r2 i (by omega), hr1, hp1, e2, hpl, hix, hld, g.len, hbh, hov, hps, AV.noTup]
theorem at_no (hn : 4 ≤ n) (k : RingAt h r P N first rs fs) {i : Int} (hi : i < 0 ∨ fs.length ≤ i) : ∃ (h' : Go.Abs.H), callX env sums n 24 [.ptr r 0, .int .i64 i] h = some (.tup [.agg zeroC, .bool false], h') ∧ Keep h h' [] := by
  obtain ⟨n, rfl⟩ : ∃ k, n = k + 1 := ⟨n - 1, by omega⟩
  obtain ⟨h1, e1⟩ : ∃ h1, h.new (.rows 29 [zeroC] false none none) = h1 := ⟨_, rfl⟩
  have k1 : Keep h h1 [] := e1 ▸ (Keep.refl h _).new _
  have hb : h1.get h.n = some (.rows 29 [zeroC] false none none) := e1 ▸ get_new_same _ _
  have r1 := k.keep k1
  refine ⟨h1.put h.n (.rows 29 [zeroC] false none none), ?_, k1.put (.inl (Nat.le_refl _)) _⟩
  have hov : over zeroC zeroC = some zeroC := over_full rfl
  refine spec_eq (spec_tr [.ptr r 0, .int .i64 i] rfl ft24 (by kernel_rfl) (tr24 ..) ?_)
  by_cases h0 : i < 0
  · simp (disch := (first | omega | assumption | rfl | (simp only [hn_new, hn_put, skip_n]; omega))) only [go_sem, heapN, e1, hb, hov, AV.noTup]
  · simp (disch := (first | omega | assumption | rfl | (simp only [hn_new, hn_put, skip_n]; omega))) only [go_sem, heapN, e1, len_ok (n := n) (by omega) r1, hb, hov, AV.noTup]

theorem place_ok' (hn : 1 ≤ n) {m : Int} (hr : h.get r = some (.rows 3 [[.sl P 0 N N, .int .i64 first, .int .i64 m]] false none none)) (h1 : 1 ≤ N) (h2 : N ≤ 64) (h3 : first < N) (i : Nat) (hi : i ≤ 64) : callX env sums n 66 [.ptr r 0, .int .i64 i] h = some (.int .i64 ((first + i) % N : Nat), h.skip 13) := by
  obtain ⟨n, rfl⟩ : ∃ k, n = k + 1 := ⟨n - 1, by omega⟩
  have ht : ((first : Int) + i).tmod N = ((first + i) % N : Nat) := by
    rw [Int.tmod_eq_emod_of_nonneg (by omega)]; rfl
  refine spec_eq (spec_tr [.ptr r 0, .int .i64 i] rfl ft66 (by kernel_rfl) (tr66 ..) ?_)
  simp (disch := (first | omega | assumption | rfl | (simp only [hn_new, hn_put, skip_n]; omega))) only [go_sem, heapN, hr, show lenS (.sl P 0 N N) = some N from rfl, ht]

/-- the first one -/
theorem front_ok (hn : 5 ≤ n) {f : Fr} {rest : List Fr} (k : RingAt h r P N first rs (f :: rest)) : ∃ (g : Fr) (h' : Go.Abs.H), callX env sums n 22 [.ptr r 0] h = some (.tup [.agg g.cs, .bool true], h') ∧ f.same g ∧ Keep h h' [] := by
  obtain ⟨n, rfl⟩ : ∃ k, n = k + 1 := ⟨n - 1, by omega⟩
  obtain ⟨h1, e1⟩ : ∃ h1, h.new (.rows 29 [zeroC] false none none) = h1 := ⟨_, rfl⟩
  have k1 : Keep h h1 [] := e1 ▸ (Keep.refl h _).new _
  have hb : h1.get h.n = some (.rows 29 [zeroC] false none none) := e1 ▸ get_new_same _ _
  have hbn : h1.n = h.n + 1 := by rw [← e1]; rfl
  obtain ⟨g, h2, e2, sg, k2⟩ := at_ok (n := n) (by omega) (k.keep k1) (i := 0) (f := f) rfl
  have hb2 : h2.get h.n = some (.rows 29 [zeroC] false none none) := by rw [k2.2 h.n (by omega) (by simp)]; exact hb
  have hov : over g.cs zeroC = some g.cs := over_full g.len
  refine ⟨g, h2.put h.n (.rows 29 [g.cs] false none none), ?_, sg, ((k1.trans k2).put (.inl (Nat.le_refl _)) _)⟩
  refine spec_eq (spec_tr [.ptr r 0] rfl ft22 (by kernel_rfl) (tr22 ..) ?_)
  have e2' : callX env sums n 24 [.ptr r 0, .int .i64 0] h1 = some (.tup [.agg g.cs, .bool true], h2) := e2
  simp (disch := (first | omega | assumption | rfl | (simp only [hn_new, hn_put, skip_n]; omega))) only [go_sem, heapN, e1, e2', g.len, hb2, hov, AV.noTup]
theorem front_no (hn : 5 ≤ n) (k : RingAt h r P N first rs []) : ∃ (h' : Go.Abs.H), callX env sums n 22 [.ptr r 0] h = some (.tup [.agg zeroC, .bool false], h') ∧ Keep h h' [] := by
  obtain ⟨n, rfl⟩ : ∃ k, n = k + 1 := ⟨n - 1, by omega⟩
  obtain ⟨h1, e1⟩ : ∃ h1, h.new (.rows 29 [zeroC] false none none) = h1 := ⟨_, rfl⟩
  have k1 : Keep h h1 [] := e1 ▸ (Keep.refl h _).new _
  have hb : h1.get h.n = some (.rows 29 [zeroC] false none none) := e1 ▸ get_new_same _ _
  have hbn : h1.n = h.n + 1 := by rw [← e1]; rfl
  obtain ⟨h2, e2, k2⟩ := at_no (n := n) (by omega) (k.keep k1) (i := 0) (.inr (by simp))
  have hb2 : h2.get h.n = some (.rows 29 [zeroC] false none none) := by rw [k2.2 h.n (by omega) (by simp)]; exact hb
  have hov : over zeroC zeroC = some zeroC := over_full rfl
  refine ⟨h2.put h.n (.rows 29 [zeroC] false none none), ?_, ((k1.trans k2).put (.inl (Nat.le_refl _)) _)⟩
  refine spec_eq (spec_tr [.ptr r 0] rfl ft22 (by kernel_rfl) (tr22 ..) ?_)
  simp (disch := (first | omega | assumption | rfl | (simp only [hn_new, hn_put, skip_n]; omega))) only [go_sem, heapN, e1, e2, hb2, hov, AV.noTup]

/-- Pop -/
theorem pop_no (hn : 6 ≤ n) (k : RingAt h r P N first rs []) : ∃ (h' : Go.Abs.H), callX env sums n 17 [.ptr r 0] h = some (.tup [.agg zeroC, .bool false], h') ∧ Keep h h' [] := by
  obtain ⟨n, rfl⟩ : ∃ k, n = k + 1 := ⟨n - 1, by omega⟩
  obtain ⟨h1, e1⟩ : ∃ h1, h.new (.rows 29 [zeroC] false none none) = h1 := ⟨_, rfl⟩
  have k1 : Keep h h1 [] := e1 ▸ (Keep.refl h _).new _
  have hb : h1.get h.n = some (.rows 29 [zeroC] false none none) := e1 ▸ get_new_same _ _
  have hbn : h1.n = h.n + 1 := by rw [← e1]; rfl
  obtain ⟨h2, e2, k2⟩ := front_no (n := n) (by omega) (k.keep k1)
  have hb2 : h2.get h.n = some (.rows 29 [zeroC] false none none) := by rw [k2.2 h.n (by omega) (by simp)]; exact hb
  have hn2 := k2.1
  obtain ⟨h3, e3⟩ : ∃ h3, h2.new (.rows 29 [zeroC] false none none) = h3 := ⟨_, rfl⟩
  have k3 : Keep h2 h3 [] := e3 ▸ (Keep.refl h2 _).new _
  have hb3 : h3.get h2.n = some (.rows 29 [zeroC] false none none) := e3 ▸ get_new_same _ _
  have hb3' : h3.get h.n = some (.rows 29 [zeroC] false none none) := by rw [k3.2 h.n (by omega) (by simp)]; exact hb2
  have hne : h.n ≠ h2.n := by omega
  have hov : over zeroC zeroC = some zeroC := over_full rfl
  refine ⟨(h3.put h2.n (.rows 29 [zeroC] false none none)).put h.n (.rows 29 [zeroC] false none none), ?_, (((k1.trans k2).trans k3).put (.inl (by omega)) _).put (.inl (Nat.le_refl _)) _⟩
  refine spec_eq (spec_tr [.ptr r 0] rfl ft17 (by kernel_rfl) (tr17 ..) ?_)
  simp (disch := (first | omega | assumption | rfl | (simp only [hn_new, hn_put, skip_n]; omega))) only [go_sem, heapN, e1, e2, e3, hb3, hb3', hov, AV.noTup]
theorem pop_ok (hn : 6 ≤ n) {f : Fr} {rest : List Fr} (k : RingAt h r P N first rs (f :: rest)) : ∃ (g : Fr) (rs' : List (List AV)) (h' : Go.Abs.H), callX env sums n 17 [.ptr r 0] h = some (.tup [.agg g.cs, .bool true], h') ∧ f.same g ∧ RingAt h' r P N ((first + 1) % N) rs' rest ∧ Keep h h' [r, P] := by
  obtain ⟨n, rfl⟩ : ∃ k, n = k + 1 := ⟨n - 1, by omega⟩
  obtain ⟨h1, e1⟩ : ∃ h1, h.new (.rows 29 [zeroC] false none none) = h1 := ⟨_, rfl⟩
  have k1 : Keep h h1 [] := e1 ▸ (Keep.refl h _).new _
  have hb : h1.get h.n = some (.rows 29 [zeroC] false none none) := e1 ▸ get_new_same _ _
  have hbn : h1.n = h.n + 1 := by rw [← e1]; rfl
  obtain ⟨g, h2, e2, sg, k2⟩ := front_ok (n := n) (by omega) (k.keep k1)
  have hb2 : h2.get h.n = some (.rows 29 [zeroC] false none none) := by rw [k2.2 h.n (by omega) (by simp)]; exact hb
  have hn2 := k2.1
  obtain ⟨h3, e3⟩ : ∃ h3, h2.new (.rows 29 [g.cs] false none none) = h3 := ⟨_, rfl⟩
  have k3 : Keep h2 h3 [] := e3 ▸ (Keep.refl h2 _).new _
  have hb3 : h3.get h2.n = some (.rows 29 [g.cs] false none none) := e3 ▸ get_new_same _ _
  have hb3' : h3.get h.n = some (.rows 29 [zeroC] false none none) := by rw [k3.2 h.n (by omega) (by simp)]; exact hb2
  have hn3 : h3.n = h2.n + 1 := by rw [← e3]; rfl
  have hne : h.n ≠ h2.n := by omega
  have hne' : h2.n ≠ h.n := by omega
  have r3 := ((k.keep k1).keep k2).keep k3
  have hr3 := r3.ring
  have hp3 := r3.places
  have n1 := k.n1
  have n2 := k.n2
  have f1 := k.f1
  have m1 := k.m1
  have rn := k.rn
  have pn := k.pn
  have hrP := k.ne
  have hPr : P ≠ r := fun e => hrP e.symm
  have hr2n : r ≠ h2.n := by omega
  have hp2n : P ≠ h2.n := by omega
  have hrn : r ≠ h.n := by omega
  have hpn : P ≠ h.n := by omega
  have hnr : h.n ≠ r := by omega
  have hnp : h.n ≠ P := by omega
  have h2r : h2.n ≠ r := by omega
  have h2p : h2.n ≠ P := by omega
  have lr := k.len
  have hov : over g.cs zeroC = some g.cs := over_full g.len
  have hst : storeG (first * 29) zeroC 29 rs = some (rs.set first zeroC) := storeG_row (by omega) k.wide rfl (by omega)
  have hix : idxS 29 (.sl P 0 N N) (first : Int) = some (P, first * 29) := by rw [idx_sl (by omega) (by omega)]; rfl
  obtain ⟨h4, e4⟩ : ∃ h4, h3.put P (.rows 29 (rs.set first zeroC) false none none) = h4 := ⟨_, rfl⟩
  have g4r : h4.get r = some (.rows 3 [[.sl P 0 N N, .int .i64 first, .int .i64 (f :: rest).length]] false none none) := by rw [← e4, get_put_ne _ _ _ _ hrP, hr3]
  have g42 : h4.get h2.n = some (.rows 29 [g.cs] false none none) := by rw [← e4, get_put_ne _ _ _ _ h2p, hb3]
  have g4b : h4.get h.n = some (.rows 29 [zeroC] false none none) := by rw [← e4, get_put_ne _ _ _ _ hnp, hb3']
  have g4p : h4.get P = some (.rows 29 (rs.set first zeroC) false none none) := by rw [← e4, get_put_same]
  have n4 : h4.n = h3.n := by rw [← e4]; rfl
  have pl := place_ok' (h := h4.skip 11) (n := n) (by omega) g4r n1 n2 f1 1 (by omega)
  have k4 : Keep h h4 [r, P] := e4 ▸ ((((k1.trans k2).trans k3).mono (by simp)).put (.inr (by simp)) _)
  obtain ⟨f', hf'⟩ : ∃ f', (first + 1) % N = f' := ⟨_, rfl⟩
  have hf'N : f' < N := by rw [← hf']; exact Nat.mod_lt _ (by omega)
  rw [hf'] at pl ⊢
  have hlr : ((f :: rest).length : Int) = rest.length + 1 := by simp
  have hml : rest.length + 1 ≤ N := by simpa using m1
  rw [hlr] at g4r
  refine ⟨g, rs.set first zeroC, ((h4.skip (11 + 13)).put r (.rows 3 [[.sl P 0 N N, .int .i64 f', .int .i64 (rest.length + 1 - 1)]] false none none)).put h.n (.rows 29 [g.cs] false none none), ?_, sg, ?_, ?_⟩
  · have pl' : callX env sums n 66 [.ptr r 0, .int .i64 1] (h4.skip 11) = some (.int .i64 f', (h4.skip 11).skip 13) := pl
    refine spec_eq (spec_tr [.ptr r 0] rfl ft17 (by kernel_rfl) (tr17 ..) ?_)
    simp (disch := (first | omega | assumption | rfl | (simp only [hn_new, hn_put, skip_n]; omega))) only [go_sem, heapN, e1, e2, e3, hb3, g.len, hov, hr3, hix, hst, hp3, e4, pl', g4r, g42, g4b, hr2n, hp2n, hnr, h2r, hlr, AV.noTup]
  · have k4n := k4.1
    refine ⟨?_, ?_, by rw [List.length_set]; exact lr, ?_, n1, n2, hf'N, by omega, ?_, hrP, ?_, ?_⟩
    · rw [get_put_ne _ _ _ _ hrn, get_put_same, Int.add_sub_cancel]
    · rw [get_put_ne _ _ _ _ hpn, get_put_ne _ _ _ _ hPr, skip_get, g4p]
    · intro x hx
      rcases List.mem_or_eq_of_mem_set hx with hx | rfl
      · exact k.wide x hx
      · rfl
    · intro i f2 hi
      have hil : i < rest.length := (List.getElem?_eq_some_iff.1 hi).1
      have hk := k.at' (i + 1) f2 (by simpa using hi)
      have he : (f' + i) % N = (first + (i + 1)) % N := by rw [← hf', Nat.mod_add_mod]; congr 1; omega
      rw [he, List.getElem?_set_ne (by rw [mod_two (by omega)]; split <;> omega)]
      exact hk
    · rw [hn_put, hn_put, skip_n]; omega
    · rw [hn_put, hn_put, skip_n]; omega
  · exact ((k4.skip _).put (.inr (by simp)) _).put (.inl (Nat.le_refl _)) _

/-- a new ring -/
theorem new_ok (hn : 1 ≤ n) (h1 : 1 ≤ N) (h2 : N ≤ 64) : ∃ (rs : List (List AV)) (h' : Go.Abs.H), callX env sums n 14 [.int .i64 N] h = some (.tup [.ptr (h.n + 1) 0, .int .i64 0], h') ∧ RingAt h' (h.n + 1) h.n N 0 rs [] ∧ Keep h h' [] := by
  obtain ⟨n, rfl⟩ : ∃ k, n = k + 1 := ⟨n - 1, by omega⟩
  have hmk : mkS 288 (N : Int) (N : Int) = some (N, N) := by
    simp only [mkS, natOf_ofNat, ble_t (Nat.le_refl N), ble_t (show N * 288 ≤ 1099511627776 by omega), ble_t (show N ≤ 1099511627776 by omega)]
  refine ⟨List.replicate N zeroC, (h.new (.rows 29 (List.replicate N zeroC) false none none)).new (.rows 3 [[.sl h.n 0 N N, .int .i64 0, .int .i64 0]] false none none), ?_, ?_, ((Keep.refl h _).new _).new _⟩
  · refine spec_eq (spec_tr [.int .i64 N] rfl ft14 (by kernel_rfl) (tr14 ..) ?_)
    simp (disch := (first | omega | assumption | rfl | (simp only [hn_new, hn_put, skip_n]; omega))) only [go_sem, heapN, hmk, AV.noTup, AV.one]
  · refine ⟨?_, ?_, by simp, ?_, h1, h2, by omega, by simp, by simp, by omega, ?_, ?_⟩
    · exact get_new_same _ _
    · rw [get_new_ne _ _ _ (by rw [hn_new]; omega), get_new_same]
    · intro x hx; rw [List.eq_of_mem_replicate hx]; rfl
    · rw [hn_new, hn_new]; omega
    · rw [hn_new, hn_new]; omega
end Go.Proofs.Ytdncenepmkbolaa
