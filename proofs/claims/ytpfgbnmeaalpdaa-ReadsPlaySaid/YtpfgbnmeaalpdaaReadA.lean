/-
  Reads: what each of the program's functions does.
-/
import Derived.Test.YtpfgbnmeaalpdaaAbsG
import Derived.Test.YtpfgbnmeaalpdaaTr
import Derived.Test.YtpfgbnmeaalpdaaSum
namespace Go.Proofs.Ytpfgbnmeaalpdaa
open Go Go.Abs Go.Abs.S Go.Abs.W
set_option maxRecDepth 10000
set_option maxHeartbeats 1000000

theorem eqn25 (b o : Nat) : binop env .eql 25 (.ptr b o) .nilp = some (.bool false) := by kernel_rfl

abbrev zero34 : List AV := [AV.int IntKind.i64 (0 : Int), AV.int IntKind.i64 (0 : Int), AV.int IntKind.i64 (0 : Int), AV.int IntKind.i64 (0 : Int), AV.int IntKind.i64 (0 : Int), AV.int IntKind.i64 (0 : Int), AV.int IntKind.i64 (0 : Int), AV.int IntKind.i64 (0 : Int), AV.int IntKind.i64 (0 : Int), AV.str [], AV.str [], AV.int IntKind.i64 (0 : Int), AV.int IntKind.i64 (0 : Int), AV.str [], AV.int IntKind.i64 (0 : Int), AV.int IntKind.i64 (0 : Int), AV.int IntKind.i64 (0 : Int), AV.int IntKind.i64 (0 : Int), AV.int IntKind.i64 (0 : Int), AV.int IntKind.i64 (0 : Int), AV.int IntKind.i64 (0 : Int), AV.str [], AV.str [], AV.int IntKind.i64 (0 : Int), AV.int IntKind.i64 (0 : Int), AV.nils, AV.int IntKind.i64 (0 : Int), AV.int IntKind.i64 (0 : Int), AV.int IntKind.i64 (0 : Int), AV.int IntKind.i64 (0 : Int), AV.int IntKind.i64 (0 : Int), AV.str [], AV.int IntKind.i64 (0 : Int), AV.int IntKind.i64 (0 : Int)]

/-- what waits: its block, its list, the last number -/
structure RdAt (h : Go.Abs.H) (r : Nat) (cap last : Int) (v : AV) (rows : List (List AV)) (S : List Nat) : Prop where
  at' : h.get r = some (.rows 3 [[.int .i64 cap, v, .int .i64 last]] false none none)
  lst : Lst h 34 v rows S
  rS : r ∉ S
  rn : r < h.n
  wide : ∀ x ∈ rows, x.length = 34
  c1 : 1 ≤ cap
  many : rows.length ≤ 1000
  one : v.one = true

section
variable {h : Go.Abs.H} {n : Nat} {r : Nat} {cap last : Int} {v : AV} {rows : List (List AV)} {S : List Nat}
theorem RdAt.keep {h' : Go.Abs.H} {T : List Nat} (k : RdAt h r cap last v rows S) (hk : Keep h h' T) (hr : r ∉ T) (hd : ∀ x ∈ S, x ∉ T) : RdAt h' r cap last v rows S :=
  ⟨by rw [hk.2 r k.rn hr]; exact k.at', k.lst.keep hk hd, k.rS, Nat.lt_of_lt_of_le k.rn hk.1, k.wide, k.c1, k.many, k.one⟩

theorem none_no (hn : 1 ≤ n) (k : RdAt h r cap last v rows S) : callX env sums n 60 [.ptr r 0] h = some (.bool false, h) := by
  obtain ⟨n, rfl⟩ : ∃ k, n = k + 1 := ⟨n - 1, by omega⟩
  have hr := k.at'
  have h1 := k.c1
  refine spec_eq (spec_tr [.ptr r 0] rfl ft60 (by kernel_rfl) (tr60 ..) ?_)
  simp (disch := (first | omega | assumption | rfl | (simp only [hn_new, hn_put, skip_n]; omega))) only [go_sem, heapN, eqn25, hr]
theorem rlen_ok (hn : 2 ≤ n) (k : RdAt h r cap last v rows S) : callX env sums n 16 [.ptr r 0] h = some (.int .i64 rows.length, h) := by
  obtain ⟨n, rfl⟩ : ∃ k, n = k + 1 := ⟨n - 1, by omega⟩
  have hr := k.at'
  refine spec_eq (spec_tr [.ptr r 0] rfl ft16 (by kernel_rfl) (tr16 ..) ?_)
  simp (disch := (first | omega | assumption | rfl | (simp only [hn_new, hn_put, skip_n]; omega))) only [go_sem, heapN, none_no (n := n) (by omega) k, hr, k.lst.len]
theorem rnew_ok (hn : 1 ≤ n) (h1 : 1 ≤ cap) (h2 : cap ≤ 16) : callX env sums n 11 [.int .i64 cap] h = some (.tup [.ptr h.n 0, .int .i64 0], h.new (.rows 3 [[.int .i64 cap, .nils, .int .i64 0]] false none none)) := by
  obtain ⟨n, rfl⟩ : ∃ k, n = k + 1 := ⟨n - 1, by omega⟩
  refine spec_eq (spec_tr [.int .i64 cap] rfl ft11 (by kernel_rfl) (tr11 ..) ?_)
  simp (disch := (first | omega | assumption | rfl | (simp only [hn_new, hn_put, skip_n]; omega))) only [go_sem, heapN, AV.noTup]

theorem keep_own {a b c : Go.Abs.H} {S T : List Nat} (k : Keep a b S) (k' : Keep b c T) (ht : ∀ x ∈ T, a.n ≤ x) : Keep a c S :=
  ⟨Nat.le_trans k.1 k'.1, fun x hx hs => by rw [k'.2 x (Nat.lt_of_lt_of_le hx k.1) (fun e => by have := ht x e; omega)]; exact k.2 x hx hs⟩
/-- what take does, whatever goes -/
noncomputable abbrev FrT (r : Nat) (g vo vs v : AV) (n i : Int) : T SV := frS [(0, .ptr r 0), (1, .v g), (5, .v vo), (6, .v vs), (14, .v v), (15, .int .i64 n), (16, .int .i64 i)]
structure JT (h : Go.Abs.H) (p : List AV → Bool) (rows : List (List AV)) (vo vs : AV) (h1 : Go.Abs.H) : Prop where
  kp : Keep h h1 []
  l : ∃ So Ss, Lst h1 34 vo (rows.filter p) So ∧ Lst h1 34 vs (rows.filter fun x => !p x) Ss ∧ (∀ x ∈ So, h.n ≤ x) ∧ (∀ x ∈ Ss, h.n ≤ x ∧ x ∉ So) ∧ vo.one = true ∧ vs.one = true
def IT (h : Go.Abs.H) (r : Nat) (g v : AV) (p : List AV → Bool) (rows : List (List AV)) (m : Nat) (f : T SV) (h1 : Go.Abs.H) : Prop :=
  ∃ (i : Nat) (j : Int) (vo vs : AV), j = i ∧ f = FrT r g vo vs v rows.length j ∧ i ≤ rows.length ∧ m = rows.length - i ∧ JT h p (rows.take i) vo vs h1

theorem takeT {F : Nat} {Q : Ex → T SV → Go.Abs.H → Prop} {h1 : Go.Abs.H} {g vo vs : AV} {p : List AV → Bool} {i : Nat} {row : List AV} (k : RdAt h r cap last v rows S)
    (hg : ∀ x ∈ rows, ∀ h', Keep h h' [] → ∃ h'', callS (callX env sums F) g [.agg x] h' = some (.bool (p x), h'') ∧ Keep h' h'' [])
    (hi : rows[i]? = some row) (hj : JT h p (rows.take i) vo vs h1)
    (kk : ∀ vo' vs' h', JT h p (rows.take (i + 1)) vo' vs' h' → Q .norm (FrT r g vo' vs' v rows.length i) h') :
    EvX env (callX env sums F) F (sub [1, 1, 1, 0, 1, 0, 0, 1, 1, 0, 0] (bodyOf Try.f56)) (FrT r g vo vs v rows.length i) h1 Q := by
  obtain ⟨kp, So, Ss, lo, ls, ho, hs, o1, o2⟩ := hj
  have hil : i < rows.length := (List.getElem?_eq_some_iff.1 hi).1
  have hmem : row ∈ rows := List.mem_of_getElem? hi
  have hw := k.wide row hmem
  have hmany := k.many
  obtain ⟨bl, o, e1, e2, _, _⟩ := (k.lst.keep kp (by simp)).sl.idx hi
  have ov : over row zero34 = some row := over_full hw
  obtain ⟨h2, e3⟩ : ∃ h2, h1.new (.rows 34 [row] false none none) = h2 := ⟨_, rfl⟩
  have k2 : Keep h1 h2 [] := e3 ▸ (Keep.refl h1 _).new _
  have b2 : h2.get h1.n = some (.rows 34 [row] false none none) := e3 ▸ get_new_same _ _
  have n2 : h2.n = h1.n + 1 := by rw [← e3]; rfl
  obtain ⟨h3, e4, k3⟩ := hg row hmem h2 (kp.trans k2)
  have b3 : h3.get h1.n = some (.rows 34 [row] false none none) := by rw [k3.2 h1.n (by omega) (by simp)]; exact b2
  obtain ⟨h4, e5⟩ : ∃ h4, h3.new (.rows 34 [row] false none none) = h4 := ⟨_, rfl⟩
  have k4 : Keep h3 h4 [] := e5 ▸ (Keep.refl h3 _).new _
  have b4 : h4.get h3.n = some (.rows 34 [row] false none none) := e5 ▸ get_new_same _ _
  have k14 := (k2.trans k3).trans k4
  have hrow := rows_one b4 (by omega) 1
  have ht : rows.take (i + 1) = rows.take i ++ [row] := by rw [List.take_add_one, hi]; rfl
  have hlen1 : ((rows.take i).filter p).length ≤ 1000 := Nat.le_trans (List.length_filter_le ..) (by rw [List.length_take]; omega)
  have hlen2 : ((rows.take i).filter fun x => !p x).length ≤ 1000 := Nat.le_trans (List.length_filter_le ..) (by rw [List.length_take]; omega)
  have hn4 : h.n ≤ h4.n := (kp.trans k14).1
  have lo' := lo.keep k14 (by simp)
  have ls' := ls.keep k14 (by simp)
  refine ev_tr (tr56g ..) ?_
  cases hp : p row with
  | true =>
    rw [hp] at e4
    obtain ⟨v', h5, S', a1, a2, a3, a4, a5⟩ := lo'.app (by omega) 336 hrow (by simp; omega) (by simp; omega)
    simp (disch := (first | omega | assumption | rfl | (simp only [hn_new, hn_put, skip_n]; omega))) only [go_sem, heapN, e1, e2, ov, hw, e3, e4, b2, b3, e5, a1]
    refine kk _ _ _ ⟨keep_own (kp.trans k14) a3 ho, S', Ss, ?_, ?_, ?_, ?_, a5, o2⟩
    · rw [ht, List.filter_append]; simpa [hp] using a2
    · rw [ht, List.filter_append]; simpa [hp] using ls'.keep a3 fun x hx => (hs x hx).2
    · intro x hx
      rcases a4 x hx with h | h
      · exact ho x h
      · omega
    · intro x hx
      refine ⟨(hs x hx).1, fun e => ?_⟩
      rcases a4 x e with h | h
      · exact (hs x hx).2 h
      · have := ls'.lt x hx; omega
  | false =>
    rw [hp] at e4
    obtain ⟨v', h5, S', a1, a2, a3, a4, a5⟩ := ls'.app (by omega) 336 hrow (by simp; omega) (by simp; omega)
    simp (disch := (first | omega | assumption | rfl | (simp only [hn_new, hn_put, skip_n]; omega))) only [go_sem, heapN, e1, e2, ov, hw, e3, e4, b2, b3, e5, a1]
    refine kk _ _ _ ⟨keep_own (kp.trans k14) a3 fun x hx => (hs x hx).1, So, S', ?_, ?_, ho, ?_, o1, a5⟩
    · rw [ht, List.filter_append]; simpa [hp] using lo'.keep a3 fun x hx e => (hs x e).2 hx
    · rw [ht, List.filter_append]; simpa [hp] using a2
    · intro x hx
      rcases a4 x hx with h | h
      · exact hs x h
      · exact ⟨by omega, fun e => by have := lo'.lt x e; omega⟩

theorem ft56 : env.ft.get 56 = some Try.f56 := by kernel_rfl
theorem end56 (p : Pr) (K : AV → Go.Abs.H → Prop) (h : Go.Abs.H) (v : AV) : endQ p env Try.f56.results.toList K .ret (frS [(4, .v v)]) h = K v h := by kernel_rfl
theorem take_ok (hn : 1010 ≤ n) {g : AV} {p : List AV → Bool} (k : RdAt h r cap last v rows S)
    (hg : ∀ x ∈ rows, ∀ h', Keep h h' [] → ∃ h'', callS (callX env sums (n - 1)) g [.agg x] h' = some (.bool (p x), h'') ∧ Keep h' h'' []) :
    ∃ vo vs h' So Ss, callX env sums n 56 [.ptr r 0, g] h = some (vo, h') ∧ Lst h' 34 vo (rows.filter p) So ∧ RdAt h' r cap last vs (rows.filter fun x => !p x) Ss ∧ Keep h h' [r] ∧ (∀ x ∈ So, h.n ≤ x) ∧ (∀ x ∈ Ss, h.n ≤ x ∧ x ∉ So) := by
  obtain ⟨n, rfl⟩ : ∃ k, n = k + 1 := ⟨n - 1, by omega⟩
  have hr := k.at'
  have hmany := k.many
  suffices hh : W.Spec env sums (n + 1) 56 [.ptr r 0, g] h (fun vo h' => ∃ vs So Ss, Lst h' 34 vo (rows.filter p) So ∧ RdAt h' r cap last vs (rows.filter fun x => !p x) Ss ∧ Keep h h' [r] ∧ (∀ x ∈ So, h.n ≤ x) ∧ (∀ x ∈ Ss, h.n ≤ x ∧ x ∉ So)) by
    obtain ⟨vo, h', e, vs, So, Ss, q⟩ := hh
    exact ⟨vo, vs, h', So, Ss, e, q⟩
  refine spec_evb [.ptr r 0, .v g] rfl ft56 (by kernel_rfl) ?_
  have hfr : initS [.ptr r 0, .v g] 0 .nil = frS [(0, .ptr r 0), (1, .v g)] := rfl
  rw [hfr]
  refine EvX.of (c := sub [] (bodyOf Try.f56)) ?_
  rw [cs56_]
  refine ev_seq (ev_tr (tr56a ..) ?_)
  show EvX _ _ _ (sub [1] (bodyOf Try.f56)) _ _ _
  rw [cs56_1]
  refine ev_seq (ev_tr (tr56b ..) ?_)
  simp (disch := (first | omega | assumption | rfl | (simp only [hn_new, hn_put, skip_n]; omega))) only [go_sem, heapN, none_no (n := n) (by omega) k]
  show EvX _ _ _ (sub [1, 1] (bodyOf Try.f56)) _ _ _
  rw [cs56_11]
  refine ev_seq (ev_tr (tr56c ..) ?_)
  show EvX _ _ _ (sub [1, 1, 1] (bodyOf Try.f56)) _ _ _
  rw [cs56_111]
  refine EvX.less (f0 := frS [(0, .ptr r 0), (1, .v g), (5, .v .nils), (6, .v .nils)]) ?_ (less_of ⟨⟨_, rfl, rfl⟩, ⟨_, rfl, rfl⟩, ⟨_, rfl, rfl⟩, ⟨_, rfl, rfl⟩, trivial⟩)
  refine ev_seq ?_
  rw [cs56_1110]
  refine ev_seq (ev_tr (tr56d ..) ?_)
  simp (disch := (first | omega | assumption | rfl | (simp only [hn_new, hn_put, skip_n]; omega))) only [go_sem, heapN, hr, k.lst.len]
  show EvX _ _ _ (sub [1, 1, 1, 0, 1] (bodyOf Try.f56)) _ _ _
  rw [cs56_11101]
  refine ev_block ?_
  rw [cs56_111010]
  refine loop_rule (IT h r g v p rows) ?_ (m := rows.length) (by omega) ⟨0, 0, .nils, .nils, rfl, rfl, by omega, by omega, Keep.refl h _, [], [], by simpa using Lst.nil h 34, by simpa using Lst.nil h 34, by simp, by simp, rfl, rfl⟩
  intro m f h1 ⟨i, j, vo, vs, hj, hf, hi, hm, hJ⟩
  subst hj hf hm
  rw [cs56_1110100]
  refine ev_seq (ev_tr (tr56e ..) ?_)
  show EvX _ _ _ (sub [1, 1, 1, 0, 1, 0, 0, 1] (bodyOf Try.f56)) _ _ _
  rw [cs56_11101001]
  refine ev_seq (ev_tr (tr56f ..) ?_)
  by_cases hlt : (i : Int) < rows.length
  · simp (disch := (first | omega | assumption | rfl | (simp only [hn_new, hn_put, skip_n]; omega))) only [go_sem, heapN]
    show EvX _ _ _ (sub [1, 1, 1, 0, 1, 0, 0, 1, 1] (bodyOf Try.f56)) _ _ _
    rw [cs56_111010011]
    refine ev_seq ?_
    rw [cs56_1110100110]
    refine ev_block ?_
    have hlt' : i < rows.length := by omega
    refine takeT k hg (List.getElem?_eq_getElem hlt') hJ ?_
    intro vo' vs' h' hJ'
    show EvX _ _ _ (sub [1, 1, 1, 0, 1, 0, 0, 1, 1, 1] (bodyOf Try.f56)) _ _ _
    refine ev_tr (tr56h ..) ?_
    simp (disch := (first | omega | assumption | rfl | (simp only [hn_new, hn_put, skip_n]; omega))) only [go_sem, heapN]
    exact ⟨rows.length - (i + 1), by omega, i + 1, _, vo', vs', by omega, rfl, by omega, rfl, hJ'⟩
  · simp (disch := (first | omega | assumption | rfl | (simp only [hn_new, hn_put, skip_n]; omega))) only [go_sem, heapN]
    show EvX _ _ _ (sub [1, 1, 1, 1] (bodyOf Try.f56)) _ _ _
    refine EvX.less (f0 := frS [(0, .ptr r 0), (5, .v vo), (6, .v vs)]) ?_ (less_of ⟨⟨_, rfl, rfl⟩, ⟨_, rfl, rfl⟩, ⟨_, rfl, rfl⟩, trivial⟩)
    obtain ⟨kp, So, Ss, lo, ls, ho, hs, o1, o2⟩ := hJ
    have hie : rows.take i = rows := List.take_of_length_le (by omega)
    rw [hie] at lo ls
    have hr1 : h1.get r = some (.rows 3 [[.int .i64 cap, v, .int .i64 last]] false none none) := by rw [kp.2 r k.rn (by simp)]; exact hr
    refine ev_tr (tr56i ..) ?_
    simp (disch := (first | omega | assumption | rfl | (simp only [hn_new, hn_put, skip_n]; omega))) only [go_sem, heapN, hr1, o2]
    rw [end56]
    have hrn := k.rn
    have kr : Keep h1 (h1.put r (.rows 3 [[.int .i64 cap, vs, .int .i64 last]] false none none)) [r] := (Keep.refl h1 _).put (.inr (by simp)) _
    have hor : ∀ x ∈ So, x ∉ [r] := fun x hx e => by have := ho x hx; simp at e; omega
    have hsr : ∀ x ∈ Ss, x ∉ [r] := fun x hx e => by have := (hs x hx).1; simp at e; omega
    refine ⟨vs, So, Ss, lo.keep kr hor, ⟨get_put_same _ _ _, ls.keep kr hsr, fun e => hsr r e (by simp), ?_, fun x hx => k.wide x ((List.mem_filter.1 hx).1), k.c1, Nat.le_trans (List.length_filter_le ..) k.many, o2⟩, ((kp.mono (by simp)).trans kr), ho, hs⟩
    rw [hn_put]; have := kp.1; omega
end
end Go.Proofs.Ytpfgbnmeaalpdaa
