/-
  Reads: what each of the program's functions does (2).
-/
import Derived.Test.YtpfgbnmeaalpdaaReadA
namespace Go.Proofs.Ytpfgbnmeaalpdaa
open Go Go.Abs Go.Abs.S Go.Abs.W
set_option maxRecDepth 10000
set_option maxHeartbeats 1000000
section
variable {h : Go.Abs.H} {n : Nat} {r : Nat} {cap last : Int} {v : AV} {rows : List (List AV)} {S : List Nat}

/-- a row's number, a row's deadline -/
noncomputable def idI (f : Int → Bool) (row : List AV) : Bool := match nth row 0 with
  | some (.int .i64 x) => f x
  | _ => false
noncomputable def dlI (f : Int → Bool) (row : List AV) : Bool := match nth row 7 with
  | some (.int .i64 x) => f x
  | _ => false
/-- rows that have numbers and deadlines -/
def Rows (rows : List (List AV)) : Prop := ∀ x ∈ rows, x.length = 34 ∧ (∃ a, nth x 0 = some (.int .i64 a)) ∧ ∃ d, nth x 7 = some (.int .i64 d)

theorem flush_ok (hn : 1011 ≤ n) (k : RdAt h r cap last v rows S) :
    ∃ vo vs h' So Ss, callX env sums n 12 [.ptr r 0] h = some (vo, h') ∧ Lst h' 34 vo rows So ∧ RdAt h' r cap last vs [] Ss ∧ Keep h h' [r] ∧ (∀ x ∈ So, h.n ≤ x) ∧ (∀ x ∈ Ss, h.n ≤ x ∧ x ∉ So) := by
  obtain ⟨n, rfl⟩ : ∃ k, n = k + 1 := ⟨n - 1, by omega⟩
  obtain ⟨vo, vs, h', So, Ss, e, q1, q2, q⟩ := take_ok (n := n) (g := .fn 57 []) (p := fun _ => true) (by omega) k (fun x hx h' _ => by
    obtain ⟨m, hm⟩ : ∃ m, n - 1 = m + 1 := ⟨n - 2, by omega⟩
    have hw := k.wide x hx
    refine ⟨h'.new (.rows 34 [x] false none none), ?_, (Keep.refl _ _).new _⟩
    show callX env sums (n - 1) 57 [.agg x] h' = _
    rw [hm]
    refine spec_eq (spec_tr [.agg x] rfl ft57 (by kernel_rfl) (tr57 ..) ?_)
    simp (disch := (first | omega | assumption | rfl | (simp only [hn_new, hn_put, skip_n]; omega))) only [go_sem, heapN, hw])
  refine ⟨vo, vs, h', So, Ss, ?_, by rw [List.filter_eq_self.2 (by simp)] at q1; exact q1, by rw [List.filter_eq_nil_iff.2 (by simp)] at q2; exact q2, q⟩
  refine spec_eq (spec_tr [.ptr r 0] rfl ft12 (by kernel_rfl) (tr12 ..) ?_)
  simp (disch := (first | omega | assumption | rfl | (simp only [hn_new, hn_put, skip_n]; omega))) only [go_sem, heapN, e]
theorem sure_ok (hn : 1011 ≤ n) (k : RdAt h r cap last v rows S) (hr : Rows rows) (x : Int) :
    ∃ vo vs h' So Ss, callX env sums n 13 [.ptr r 0, .int .i64 x] h = some (vo, h') ∧ Lst h' 34 vo (rows.filter (idI fun a => decide (a ≤ x))) So ∧ RdAt h' r cap last vs (rows.filter fun y => !idI (fun a => decide (a ≤ x)) y) Ss ∧ Keep h h' [r] ∧ (∀ x ∈ So, h.n ≤ x) ∧ (∀ x ∈ Ss, h.n ≤ x ∧ x ∉ So) := by
  obtain ⟨n, rfl⟩ : ∃ k, n = k + 1 := ⟨n - 1, by omega⟩
  have k1 : Keep h (h.new (.rows 1 [[.int .i64 x]] false none none)) [] := (Keep.refl h _).new _
  have hb : (h.new (.rows 1 [[.int .i64 x]] false none none)).get h.n = some (.rows 1 [[.int .i64 x]] false none none) := get_new_same _ _
  have hbn : (h.new (.rows 1 [[.int .i64 x]] false none none)).n = h.n + 1 := rfl
  obtain ⟨vo, vs, h', So, Ss, e, q1, q2, q3, q4, q5⟩ := take_ok (n := n) (g := .fn 58 [.ptr h.n 0]) (p := idI fun a => decide (a ≤ x)) (by omega) (k.keep k1 (by simp) (by simp)) (fun y hy h' kk => by
    obtain ⟨m, hm⟩ : ∃ m, n - 1 = m + 1 := ⟨n - 2, by omega⟩
    obtain ⟨hw, ⟨a, ha⟩, _⟩ := hr y hy
    have hb' : h'.get h.n = some (.rows 1 [[.int .i64 x]] false none none) := by rw [kk.2 h.n (by omega) (by simp)]; exact hb
    have hne : h.n ≠ h'.n := by have := kk.1; omega
    have hid : idI (fun a => decide (a ≤ x)) y = decide (a ≤ x) := by simp only [idI, ha]
    rw [hid]
    refine ⟨h'.new (.rows 34 [y] false none none), ?_, (Keep.refl _ _).new _⟩
    show callX env sums (n - 1) 58 [.agg y, .ptr h.n 0] h' = _
    rw [hm]
    refine spec_eq (spec_tr [.agg y, .ptr h.n 0] rfl ft58 (by kernel_rfl) (tr58 ..) ?_)
    simp (disch := (first | omega | assumption | rfl | (simp only [hn_new, hn_put, skip_n]; omega))) only [go_sem, heapN, hw, hb', ha])
  refine ⟨vo, vs, h', So, Ss, ?_, q1, q2, ((k1.mono (by simp)).trans q3), fun x hx => by have := q4 x hx; omega, fun x hx => ⟨by have := (q5 x hx).1; omega, (q5 x hx).2⟩⟩
  refine spec_eq (spec_tr [.ptr r 0, .int .i64 x] rfl ft13 (by kernel_rfl) (tr13 ..) ?_)
  simp (disch := (first | omega | assumption | rfl | (simp only [hn_new, hn_put, skip_n]; omega))) only [go_sem, heapN, e]
theorem expire_ok (hn : 1011 ≤ n) (k : RdAt h r cap last v rows S) (hr : Rows rows) (x : Int) :
    ∃ vo vs h' So Ss, callX env sums n 14 [.ptr r 0, .int .i64 x] h = some (vo, h') ∧ Lst h' 34 vo (rows.filter (dlI fun a => decide (a < x))) So ∧ RdAt h' r cap last vs (rows.filter fun y => !dlI (fun a => decide (a < x)) y) Ss ∧ Keep h h' [r] ∧ (∀ x ∈ So, h.n ≤ x) ∧ (∀ x ∈ Ss, h.n ≤ x ∧ x ∉ So) := by
  obtain ⟨n, rfl⟩ : ∃ k, n = k + 1 := ⟨n - 1, by omega⟩
  have k1 : Keep h (h.new (.rows 1 [[.int .i64 x]] false none none)) [] := (Keep.refl h _).new _
  have hb : (h.new (.rows 1 [[.int .i64 x]] false none none)).get h.n = some (.rows 1 [[.int .i64 x]] false none none) := get_new_same _ _
  have hbn : (h.new (.rows 1 [[.int .i64 x]] false none none)).n = h.n + 1 := rfl
  obtain ⟨vo, vs, h', So, Ss, e, q1, q2, q3, q4, q5⟩ := take_ok (n := n) (g := .fn 59 [.ptr h.n 0]) (p := dlI fun a => decide (a < x)) (by omega) (k.keep k1 (by simp) (by simp)) (fun y hy h' kk => by
    obtain ⟨m, hm⟩ : ∃ m, n - 1 = m + 1 := ⟨n - 2, by omega⟩
    obtain ⟨hw, _, ⟨a, ha⟩⟩ := hr y hy
    have hb' : h'.get h.n = some (.rows 1 [[.int .i64 x]] false none none) := by rw [kk.2 h.n (by omega) (by simp)]; exact hb
    have hne : h.n ≠ h'.n := by have := kk.1; omega
    have hid : dlI (fun a => decide (a < x)) y = decide (a < x) := by simp only [dlI, ha]
    rw [hid]
    refine ⟨h'.new (.rows 34 [y] false none none), ?_, (Keep.refl _ _).new _⟩
    show callX env sums (n - 1) 59 [.agg y, .ptr h.n 0] h' = _
    rw [hm]
    refine spec_eq (spec_tr [.agg y, .ptr h.n 0] rfl ft59 (by kernel_rfl) (tr59 ..) ?_)
    simp (disch := (first | omega | assumption | rfl | (simp only [hn_new, hn_put, skip_n]; omega))) only [go_sem, heapN, hw, hb', ha])
  refine ⟨vo, vs, h', So, Ss, ?_, q1, q2, ((k1.mono (by simp)).trans q3), fun x hx => by have := q4 x hx; omega, fun x hx => ⟨by have := (q5 x hx).1; omega, (q5 x hx).2⟩⟩
  refine spec_eq (spec_tr [.ptr r 0, .int .i64 x] rfl ft14 (by kernel_rfl) (tr14 ..) ?_)
  simp (disch := (first | omega | assumption | rfl | (simp only [hn_new, hn_put, skip_n]; omega))) only [go_sem, heapN, e]

abbrev z33 : List AV := [AV.int IntKind.i64 (0 : Int), AV.int IntKind.i64 (0 : Int), AV.int IntKind.i64 (0 : Int), AV.int IntKind.i64 (0 : Int), AV.int IntKind.i64 (0 : Int), AV.int IntKind.i64 (0 : Int), AV.int IntKind.i64 (0 : Int), AV.int IntKind.i64 (0 : Int), AV.str [], AV.str [], AV.int IntKind.i64 (0 : Int), AV.int IntKind.i64 (0 : Int), AV.str [], AV.int IntKind.i64 (0 : Int), AV.int IntKind.i64 (0 : Int), AV.int IntKind.i64 (0 : Int), AV.int IntKind.i64 (0 : Int), AV.int IntKind.i64 (0 : Int), AV.int IntKind.i64 (0 : Int), AV.int IntKind.i64 (0 : Int), AV.str [], AV.str [], AV.int IntKind.i64 (0 : Int), AV.int IntKind.i64 (0 : Int), AV.nils, AV.int IntKind.i64 (0 : Int), AV.int IntKind.i64 (0 : Int), AV.int IntKind.i64 (0 : Int), AV.int IntKind.i64 (0 : Int), AV.int IntKind.i64 (0 : Int), AV.str [], AV.int IntKind.i64 (0 : Int), AV.int IntKind.i64 (0 : Int)]
theorem over_f {f : List AV} (hf : f.length = 29) (a : Int) : overS 29 f 1 (.int .i64 a :: z33) = some (.int .i64 a :: (f ++ [.int .i64 0, .str [], .int .i64 0, .int .i64 0])) := by
  have e : lenN f = 29 := by rw [lenN_eq, hf]
  simp only [overS, e]
  show atN (over f) (0 + 1) _ = _
  rw [atN_succ, atN_zero]
  have : over f z33 = some (f ++ z33.drop 29) := by rw [over_eq, hf]; exact ⟨by decide, rfl⟩
  rw [this]; rfl
theorem over_x {f x : List AV} (hf : f.length = 29) (hx : x.length = 4) (a : Int) : overS 4 x 30 (.int .i64 a :: (f ++ [.int .i64 0, .str [], .int .i64 0, .int .i64 0])) = some (.int .i64 a :: (f ++ x)) := by
  have e : lenN x = 4 := by rw [lenN_eq, hx]
  simp only [overS, e]
  show atN (over x) 30 _ = _
  rw [atN_eq]
  refine ⟨by simp [hf], x, ?_, ?_⟩
  · rw [show (30 : Nat) = 29 + 1 from rfl, List.drop_succ_cons, ← hf, List.drop_left, over_full (by simp [hx])]
  · rw [show (30 : Nat) = 29 + 1 from rfl, List.take_succ_cons, ← hf, List.take_left]; rfl
theorem put_no (hn : 2 ≤ n) (k : RdAt h r cap last v rows S) (hf : cap ≤ rows.length) {f x : List AV} (h1 : f.length = 29) (h2 : x.length = 4) :
    ∃ h', callX env sums n 15 [.ptr r 0, .agg f, .agg x] h = some (.tup [.int .i64 0, .int .i64 60], h') ∧ Keep h h' [] := by
  obtain ⟨n, rfl⟩ : ∃ k, n = k + 1 := ⟨n - 1, by omega⟩
  obtain ⟨h3, e3⟩ : ∃ h3, (h.new (.rows 29 [f] false none none)).new (.rows 4 [x] false none none) = h3 := ⟨_, rfl⟩
  have k3 : Keep h h3 [] := e3 ▸ ((Keep.refl h _).new _).new _
  have k' := k.keep k3 (by simp) (by simp)
  have hr := k'.at'
  refine ⟨h3.skip 11, ?_, k3.skip _⟩
  refine spec_eq (spec_tr [.ptr r 0, .agg f, .agg x] rfl ft15 (by kernel_rfl) (tr15 ..) ?_)
  simp (disch := (first | omega | assumption | rfl | (simp only [hn_new, hn_put, skip_n]; omega))) only [go_sem, heapN, h1, h2, e3, none_no (n := n) (by omega) k', hr, k.lst.len]
theorem put_ok (hn : 2 ≤ n) (k : RdAt h r cap last v rows S) (hf : rows.length < cap) (hc : cap ≤ 16) (hl : 0 ≤ last ∧ last ≤ 1000000) {f x : List AV} (h1 : f.length = 29) (h2 : x.length = 4) :
    ∃ v' h' S', callX env sums n 15 [.ptr r 0, .agg f, .agg x] h = some (.tup [.int .i64 (last + 1), .int .i64 0], h') ∧ RdAt h' r cap (last + 1) v' (rows ++ [.int .i64 (last + 1) :: (f ++ x)]) S' ∧ Keep h h' (r :: S) ∧ (∀ x ∈ S', x ∈ S ∨ h.n ≤ x) := by
  obtain ⟨n, rfl⟩ : ∃ k, n = k + 1 := ⟨n - 1, by omega⟩
  obtain ⟨h3, e3⟩ : ∃ h3, (h.new (.rows 29 [f] false none none)).new (.rows 4 [x] false none none) = h3 := ⟨_, rfl⟩
  have k3 : Keep h h3 [] := e3 ▸ ((Keep.refl h _).new _).new _
  have k' := k.keep k3 (by simp) (by simp)
  have hr := k'.at'
  suffices hh : W.Spec env sums (n + 1) 15 [.ptr r 0, .agg f, .agg x] h (fun a h' => a = .tup [.int .i64 (last + 1), .int .i64 0] ∧ ∃ v' S', RdAt h' r cap (last + 1) v' (rows ++ [.int .i64 (last + 1) :: (f ++ x)]) S' ∧ Keep h h' (r :: S) ∧ (∀ x ∈ S', x ∈ S ∨ h.n ≤ x)) by
    obtain ⟨a, h', e, rfl, v', S', q⟩ := hh
    exact ⟨v', h', S', e, q⟩
  have hb1 : h3.get h.n = some (.rows 29 [f] false none none) := by rw [← e3, get_new_ne _ _ _ (by rw [hn_new]; omega), get_new_same]
  have hb2 : h3.get (h.n + 1) = some (.rows 4 [x] false none none) := by rw [← e3]; exact get_new_same _ _
  have hn3 : h3.n = h.n + 2 := by rw [← e3]; rfl
  have rn := k.rn
  have hne1 : h.n ≠ r := by omega
  have hne2 : h.n + 1 ≠ r := by omega
  have hle : (.int .i64 (last + 1) :: (f ++ x) : List AV).length = 34 := by simp [h1, h2]
  refine spec_tr [.ptr r 0, .agg f, .agg x] rfl ft15 (by kernel_rfl) (tr15 ..) ?_
  simp (disch := (first | omega | assumption | rfl | (simp only [hn_new, hn_put, skip_n]; omega))) only [go_sem, heapN, h1, h2, e3, none_no (n := n) (by omega) k', hr, hb1, hb2, k.lst.len, over_f h1, over_x h1 h2]
  obtain ⟨h4, e4⟩ : ∃ h4, ((h3.put r (Blk.rows 3 [[AV.int IntKind.i64 cap, v, AV.int IntKind.i64 (last + 1)]] false none none)).put (h3.n + 11 + 12) (Blk.rows 34 [AV.int IntKind.i64 (last + 1) :: (f ++ x)] false none none)).skip (11 + 17) = h4 := ⟨_, rfl⟩
  rw [e4]
  have b4 : h4.get (h3.n + 11 + 12) = some (.rows 34 [AV.int IntKind.i64 (last + 1) :: (f ++ x)] false none none) := by rw [← e4, skip_get, get_put_same]
  have r4 : h4.get r = some (Blk.rows 3 [[AV.int IntKind.i64 cap, v, AV.int IntKind.i64 (last + 1)]] false none none) := by rw [← e4, skip_get, get_put_ne _ _ _ _ (by omega), get_put_same]
  have n4 : h4.n = h3.n + 28 := by rw [← e4]; rfl
  have k4 : Keep h h4 [r] := e4 ▸ ((((k3.mono (by simp)).put (.inr (by simp)) _).put (.inl (by omega)) _).skip _)
  have hd : ∀ x ∈ S, x ∉ [r] := fun x hx e => by
    simp at e; subst e; exact k.rS hx
  have lr := k.many
  obtain ⟨v', h5, S', a1, a2, a3, a4, a5⟩ := (k.lst.keep k4 hd).app (by omega) 336 (rows_one b4 (by omega) 1) (by simp; omega) (by simp; omega)
  have r5 : h5.get r = some (Blk.rows 3 [[AV.int IntKind.i64 cap, v, AV.int IntKind.i64 (last + 1)]] false none none) := by rw [a3.2 r (by omega) k.rS]; exact r4
  simp (disch := (first | omega | assumption | rfl | (simp only [hn_new, hn_put, skip_n]; omega))) only [go_sem, heapN, a1, a5, r5]
  have kr : Keep h5 (h5.put r (Blk.rows 3 [[AV.int IntKind.i64 cap, v', AV.int IntKind.i64 (last + 1)]] false none none)) [r] := (Keep.refl h5 _).put (.inr (by simp)) _
  have hrS : r ∉ S' := fun e => by
    rcases a4 r e with h | h
    · exact k.rS h
    · omega
  refine ⟨v', S', ⟨get_put_same _ _ _, a2.keep kr (fun x hx e => ?_), hrS, ?_, ?_, k.c1, ?_, a5⟩, ((k4.mono (by simp)).trans (a3.mono fun y hy => List.mem_cons_of_mem _ hy)).trans (kr.mono (by simp)), ?_⟩
  · simp at e; subst e; exact hrS hx
  · rw [hn_put]; have := a3.1; omega
  · intro y hy
    rcases List.mem_append.1 hy with hy | hy
    · exact k.wide y hy
    · simp at hy; subst hy; exact hle
  · simp; omega
  · intro y hy
    rcases a4 y hy with h | h
    · exact .inl h
    · exact .inr (by omega)
end
end Go.Proofs.Ytpfgbnmeaalpdaa
