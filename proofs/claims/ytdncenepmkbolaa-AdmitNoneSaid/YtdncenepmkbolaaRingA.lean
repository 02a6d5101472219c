/-
  Rings: what each of the program's functions does with frames that have no members.
-/
import Derived.Test.YtdncenepmkbolaaAbsA
import Derived.Test.YtdncenepmkbolaaTr
import Derived.Test.YtdncenepmkbolaaSum
namespace Go.Proofs.Ytdncenepmkbolaa
open Go Go.Abs Go.Abs.S Go.Abs.W
set_option maxRecDepth 10000
set_option maxHeartbeats 1000000

theorem eqn24 (b o : Nat) : binop env .eql 24 (.ptr b o) .nilp = some (.bool false) := by kernel_rfl
theorem eqs36a : binop env .eql 36 .nils .nils = some (.bool true) := by kernel_rfl
theorem eqs36b : binop env .eql 36 (.top .emp) .nils = some (.bool false) := by kernel_rfl
theorem eqs36c (b o l c : Nat) : binop env .eql 36 (.sl b o l c) .nils = some (.bool false) := by kernel_rfl

/-- members that are none -/
def NoM (m : AV) : Prop := m = .nils ∨ m = .top .emp ∨ ∃ b c, m = .sl b 0 0 c
theorem NoM.one {m : AV} (h : NoM m) : m.one = true := by
  rcases h with rfl | rfl | ⟨b, c, rfl⟩ <;> rfl

/-- a frame's cells, parted at its members -/
structure Fr where
  p : List AV
  m : AV
  q : List AV
  hp : p.length = 24
  hq : q.length = 4
  hm : NoM m
  hs : sameL (p ++ q) (p ++ q) = true
def Fr.cs (f : Fr) : List AV := f.p ++ f.m :: f.q
theorem sameL_all : ∀ l : List AV, sameL l l = l.all fun v => sameV v v
  | [] => by simp [sameL]
  | v :: r => by simp [sameL, sameL_all r]
theorem NoM.same {m : AV} (h : NoM m) : sameV m m = true := by
  rcases h with rfl | rfl | ⟨b, c, rfl⟩ <;> simp [sameV]
theorem Fr.refl (f : Fr) : sameL f.cs f.cs = true := by
  have h := f.hs
  rw [sameL_all] at h ⊢
  simp only [Fr.cs, List.all_append, List.all_cons, Bool.and_eq_true] at h ⊢
  exact ⟨h.1, f.hm.same, h.2⟩
theorem Fr.len (f : Fr) : f.cs.length = 29 := length_mid _ _ _ f.hp (by rw [f.hq])
/-- the same frame, up to its members that are none -/
def Fr.same (f g : Fr) : Prop := f.p = g.p ∧ f.q = g.q
theorem Fr.same_refl (f : Fr) : f.same f := ⟨rfl, rfl⟩
theorem Fr.same_trans {f g k : Fr} (h : f.same g) (h' : g.same k) : f.same k := ⟨h.1.trans h'.1, h.2.trans h'.2⟩

def zeroP : List AV := [.int .i64 0, .int .i64 0, .int .i64 0, .int .i64 0, .int .i64 0, .int .i64 0, .int .i64 0, .int .i64 0, .str [], .str [], .int .i64 0, .int .i64 0, .str [], .int .i64 0, .int .i64 0, .int .i64 0, .int .i64 0, .int .i64 0, .int .i64 0, .int .i64 0, .str [], .str [], .int .i64 0, .int .i64 0]
def zeroF : Fr := ⟨zeroP, .nils, [.int .i64 0, .int .i64 0, .int .i64 0, .int .i64 0], rfl, rfl, .inl rfl, by simp [zeroP, sameL, sameV]⟩

variable {h : Go.Abs.H} {n : Nat}

/-- slices.Clone of members that are none -/
theorem clone_ok (hn : 1 ≤ n) {m : AV} (hm : NoM m) : ∃ m' h', callX env sums n 88 [m] h = some (m', h') ∧ NoM m' ∧ Keep h h' [] := by
  obtain ⟨n, rfl⟩ : ∃ k, n = k + 1 := ⟨n - 1, by omega⟩
  rcases hm with rfl | rfl | ⟨b, c, rfl⟩
  · refine ⟨.nils, h, ?_, .inl rfl, Keep.refl h _⟩
    refine spec_eq (spec_tr [.v .nils] rfl ft88 (by kernel_rfl) (tr88 ..) ?_)
    simp (disch := (first | omega | assumption | rfl | (simp only [hn_new, hn_put, skip_n]; omega))) only [go_sem, heapN, eqs36a]
  · refine ⟨.sl h.n 0 0 0, h.new (.rows 2 [] false none none), ?_, .inr (.inr ⟨_, _, rfl⟩), (Keep.refl h _).new _⟩
    refine spec_eq (spec_tr [.v (.top .emp)] rfl ft88 (by kernel_rfl) (tr88 ..) ?_)
    simp (disch := (first | omega | assumption | rfl | (simp only [hn_new, hn_put, skip_n]; omega))) only [go_sem, heapN, eqs36b, show appendOp (h.new (.rows 2 [] false none none)) 2 16 (.sl h.n 0 0 0) (.top .emp) = some (.sl h.n 0 0 0, h.new (.rows 2 [] false none none)) from rfl]
  · refine ⟨.sl h.n 0 0 0, h.new (.rows 2 [] false none none), ?_, .inr (.inr ⟨_, _, rfl⟩), (Keep.refl h _).new _⟩
    refine spec_eq (spec_tr [.v (.sl b 0 0 c)] rfl ft88 (by kernel_rfl) (tr88 ..) ?_)
    simp (disch := (first | omega | assumption | rfl | (simp only [hn_new, hn_put, skip_n]; omega))) only [go_sem, heapN, eqs36c, show appendOp (h.new (.rows 2 [] false none none)) 2 16 (.sl h.n 0 0 0) (.sl b 0 0 c) = some (.sl h.n 0 0 0, h.new (.rows 2 [] false none none)) from rfl]

abbrev zeroC : List AV := [AV.int IntKind.i64 (0 : Int), AV.int IntKind.i64 (0 : Int), AV.int IntKind.i64 (0 : Int), AV.int IntKind.i64 (0 : Int), AV.int IntKind.i64 (0 : Int), AV.int IntKind.i64 (0 : Int), AV.int IntKind.i64 (0 : Int), AV.int IntKind.i64 (0 : Int), AV.str [], AV.str [], AV.int IntKind.i64 (0 : Int), AV.int IntKind.i64 (0 : Int), AV.str [], AV.int IntKind.i64 (0 : Int), AV.int IntKind.i64 (0 : Int), AV.int IntKind.i64 (0 : Int), AV.int IntKind.i64 (0 : Int), AV.int IntKind.i64 (0 : Int), AV.int IntKind.i64 (0 : Int), AV.int IntKind.i64 (0 : Int), AV.str [], AV.str [], AV.int IntKind.i64 (0 : Int), AV.int IntKind.i64 (0 : Int), AV.nils, AV.int IntKind.i64 (0 : Int), AV.int IntKind.i64 (0 : Int), AV.int IntKind.i64 (0 : Int), AV.int IntKind.i64 (0 : Int)]
theorem zeroF_cs : zeroF.cs = zeroC := rfl
/-- a frame of its own -/
theorem own_ok (hn : 2 ≤ n) (f : Fr) : ∃ (g : Fr) (h' : Go.Abs.H), callX env sums n 65 [.agg f.cs] h = some (.agg g.cs, h') ∧ f.same g ∧ Keep h h' [] := by
  obtain ⟨n, rfl⟩ : ∃ k, n = k + 1 := ⟨n - 1, by omega⟩
  obtain ⟨p, m, q, hp, hq, hm, hs⟩ := f
  have e24 : nth (p ++ m :: q) 24 = some m := nth_mid _ _ _ _ hp
  have hl : (p ++ m :: q).length = 29 := length_mid _ _ _ hp (by rw [hq])
  obtain ⟨m', h1, c1, c2, c3⟩ := clone_ok (h := (h.new (.rows 29 [p ++ m :: q] false none none)).new (.rows 29 [zeroC] false none none)) (n := n) (by omega) hm
  have hl' : (p ++ m' :: q).length = 29 := length_mid _ _ _ hp (by rw [hq])
  have k0 : ((h.new (.rows 29 [p ++ m :: q] false none none)).new (.rows 29 [zeroC] false none none)).n = h.n + 2 := rfl
  have g1 : h1.get h.n = some (.rows 29 [p ++ m :: q] false none none) := by rw [c3.2 _ (by rw [k0]; omega) (by simp), get_new_ne _ _ _ (by rw [hn_new]; omega), get_new_same]
  have g2 : h1.get (h.n + 1) = some (.rows 29 [zeroC] false none none) := by rw [c3.2 _ (by rw [k0]; omega) (by simp)]; exact get_new_same _ _
  have kk : Keep h h1 [] := ⟨by have := c3.1; rw [k0] at this; omega, fun b hb _ => by rw [c3.2 b (by rw [k0]; omega) (by simp), get_new_ne _ _ _ (by rw [hn_new]; omega), get_new_ne _ _ _ (by omega)]⟩
  refine ⟨⟨p, m', q, hp, hq, c2, hs⟩, (h1.put h.n (.rows 29 [p ++ m' :: q] false none none)).put (h.n + 1) (.rows 29 [p ++ m' :: q] false none none), ?_, ⟨rfl, rfl⟩, (kk.put (.inl (Nat.le_refl _)) _).put (.inl (by omega)) _⟩
  show callX env sums (n + 1) 65 [.agg (p ++ m :: q)] h = some (.agg (p ++ m' :: q), _)
  have zz : zeroC.length = 29 := rfl
  have ov : over (p ++ m' :: q) zeroC = some (p ++ m' :: q) := over_full hl'
  have ea : ∀ v, atN (over [v]) 24 (p ++ m :: q) = some (p ++ v :: q) := fun v => atN_mid _ _ _ _ _ hp
  refine spec_eq (spec_tr [.agg (p ++ m :: q)] rfl ft65 (by kernel_rfl) (tr65 ..) ?_)
  simp (disch := (first | omega | assumption | rfl | (simp only [hn_new, hn_put, skip_n]; omega))) only [go_sem, heapN, e24, hl, hl', c2.one, c1, g1, g2, ea, ov]

/-- a ring: its places' block, where it begins, what it has -/
structure RingAt (h : Go.Abs.H) (r P N first : Nat) (rs : List (List AV)) (fs : List Fr) : Prop where
  ring : h.get r = some (.rows 3 [[.sl P 0 N N, .int .i64 first, .int .i64 fs.length]] false none none)
  places : h.get P = some (.rows 29 rs false none none)
  len : rs.length = N
  wide : ∀ x ∈ rs, x.length = 29
  n1 : 1 ≤ N
  n2 : N ≤ 64
  f1 : first < N
  m1 : fs.length ≤ N
  at' : ∀ (i : Nat) (f : Fr), fs[i]? = some f → rs[(first + i) % N]? = some f.cs
  ne : r ≠ P
  rn : r < h.n
  pn : P < h.n

section
variable {r P N first : Nat} {rs : List (List AV)} {fs : List Fr}
theorem RingAt.keep {h h' : Go.Abs.H} (k : RingAt h r P N first rs fs) (hk : Keep h h' []) : RingAt h' r P N first rs fs :=
  ⟨by rw [hk.2 r k.rn (by simp)]; exact k.ring, by rw [hk.2 P k.pn (by simp)]; exact k.places, k.len, k.wide, k.n1, k.n2, k.f1, k.m1, k.at', k.ne, Nat.lt_of_lt_of_le k.rn hk.1, Nat.lt_of_lt_of_le k.pn hk.1⟩

theorem len_ok (hn : 1 ≤ n) (k : RingAt h r P N first rs fs) : callX env sums n 18 [.ptr r 0] h = some (.int .i64 fs.length, h) := by
  obtain ⟨n, rfl⟩ : ∃ k, n = k + 1 := ⟨n - 1, by omega⟩
  have hr := k.ring
  refine spec_eq (spec_tr [.ptr r 0] rfl ft18 (by kernel_rfl) (tr18 ..) ?_)
  simp (disch := (first | omega | assumption | rfl | (simp only [hn_new, hn_put, skip_n]; omega))) only [go_sem, heapN, eqn24, hr]
theorem cap_ok (hn : 1 ≤ n) (k : RingAt h r P N first rs fs) : callX env sums n 15 [.ptr r 0] h = some (.int .i64 N, h) := by
  obtain ⟨n, rfl⟩ : ∃ k, n = k + 1 := ⟨n - 1, by omega⟩
  have hr := k.ring
  refine spec_eq (spec_tr [.ptr r 0] rfl ft15 (by kernel_rfl) (tr15 ..) ?_)
  simp (disch := (first | omega | assumption | rfl | (simp only [hn_new, hn_put, skip_n]; omega))) only [go_sem, heapN, eqn24, hr, show lenS (.sl P 0 N N) = some N from rfl]
theorem place_ok (hn : 1 ≤ n) (k : RingAt h r P N first rs fs) (i : Nat) (hi : i ≤ 64) : callX env sums n 66 [.ptr r 0, .int .i64 i] h = some (.int .i64 ((first + i) % N : Nat), h.skip 13) := by
  obtain ⟨n, rfl⟩ : ∃ k, n = k + 1 := ⟨n - 1, by omega⟩
  have hr := k.ring
  have h1 := k.n1
  have h2 := k.n2
  have h3 := k.f1
  have ht : ((first : Int) + i).tmod N = ((first + i) % N : Nat) := by
    rw [Int.tmod_eq_emod_of_nonneg (by omega)]; rfl
  refine spec_eq (spec_tr [.ptr r 0, .int .i64 i] rfl ft66 (by kernel_rfl) (tr66 ..) ?_)
  simp (disch := (first | omega | assumption | rfl | (simp only [hn_new, hn_put, skip_n]; omega))) only [go_sem, heapN, hr, show lenS (.sl P 0 N N) = some N from rfl, ht]
end
end Go.Proofs.Ytdncenepmkbolaa
