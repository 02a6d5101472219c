/-
  Reads: the document's functions (3), and copies.
-/
import Derived.Test.YtpfgbnmeaalpdaaReadJ
namespace Go.Proofs.Ytpfgbnmeaalpdaa
open Go Go.Abs Go.Abs.S Go.Abs.W
set_option maxRecDepth 10000
set_option maxHeartbeats 1000000
section
variable {h0 h : Go.Abs.H} {L : List Ch} {n : Nat} {r : Nat} {cap last : Int} {v : AV} {rows : List (List AV)}
theorem expire_q (hn : rows.length + 3 ≤ n) (k : Hs h0 (RdC r cap last rows :: L) h) (hr : Rows rows) (x : Int) :
    ∃ vo h', callX env sums n 20 [.ptr r 0, .int .i64 x] h = some (vo, h') ∧ TakeP h0 L r cap last rows (dlI fun a => decide (a < x)) vo h' := by
  obtain ⟨n, rfl⟩ : ∃ k, n = k + 1 := ⟨n - 1, by omega⟩
  obtain ⟨pp, v, ho, k2⟩ := rd_open k
  have hm := pp.many
  generalize hp : (dlI fun a => decide (a < x)) = p
  suffices hh : W.Spec env sums (n + 1) 20 [.ptr r 0, .int .i64 x] h (fun vo h' => TakeP h0 L r cap last rows p vo h') by
    obtain ⟨vo, h', e, q⟩ := hh; exact ⟨vo, h', e, q⟩
  refine spec_trN [.ptr r 0, .int .i64 x] rfl ft20 (by kernel_rfl) (tn20 ..) ?_
  simp (disch := (first | omega | assumption | rfl | (simp only [hn_new, hn_put, skip_n]; omega))) only [go_sem, heapN]
  refine ⟨fun l m h1 => ∃ (i : Nat) (vo vs : AV), l = [vo, vs, .int .i64 i] ∧ m = rows.length - i ∧ i ≤ rows.length ∧ Hs h0 (LsC 34 vo ((rows.take i).filter p) :: LsC 34 vs ((rows.take i).filter fun x => !p x) :: Cell r (.rows 3 [[.int .i64 cap, v, .int .i64 last]] false none none) :: LsC 34 v rows :: L) h1, ⟨rows.length, by omega, 0, .nils, .nils, rfl, by omega, by omega, by simpa using (k2.nil 34).nil 34⟩, ?_⟩
  intro vo vs n4 m5 h6 ⟨i, _, _, e, hm', hi, hk⟩
  cases e; subst hm'
  have g := hk.at3.get
  have s := hk.at4.sl
  have f1 : ((rows.take i).filter p).length ≤ 1000 := Nat.le_trans (List.length_filter_le ..) (by rw [List.length_take]; omega)
  have f2 : ((rows.take i).filter fun x => !p x).length ≤ 1000 := Nat.le_trans (List.length_filter_le ..) (by rw [List.length_take]; omega)
  by_cases hlt : (i : Int) < rows.length
  · obtain ⟨y, hy⟩ : ∃ y, rows[i]? = some y := ⟨rows[i], List.getElem?_eq_getElem (by omega)⟩
    have ht : rows.take (i + 1) = rows.take i ++ [y] := by rw [List.take_add_one, hy]; rfl
    obtain ⟨b1, o1, p1, p2, p3, _⟩ := s.idx hy
    obtain ⟨hw, _, ⟨d, hd⟩⟩ := hr y (List.mem_of_getElem? hy)
    have g0 : cellG (o1 + 1 + 6) (h6.get b1) = some (.int .i64 d) := by have := p3 7 (by omega); rw [cellQ_some _ _ _ (by omega), hd] at this; exact this
    have hpy : p y = decide (d < x) := by rw [← hp]; simp only [dlI, hd]
    have kn := hk.new (.rows 34 [y] false none none)
    have hrow := rows_one kn.get (es := 34) (by omega) 1
    by_cases hax : d < x
    · obtain ⟨v', h', a1, a2, a3⟩ := kn.at2.app (by omega) 336 hrow (by simp; omega) (by simp; omega)
      simp (disch := (first | omega | assumption | rfl | (simp only [hn_new, hn_put, skip_n]; omega))) only [go_sem, heapN, g, s.len, p1, p2, g0, hw, a1]
      refine ⟨rows.length - (i + 1), by omega, i + 1, v', vs, by simp, rfl, by omega, ?_⟩
      rw [ht, List.filter_append, List.filter_append]
      simpa [hpy, hax] using a2.at2.drop
    · obtain ⟨v', h', a1, a2, a3⟩ := kn.at3.app (by omega) 336 hrow (by simp; omega) (by simp; omega)
      simp (disch := (first | omega | assumption | rfl | (simp only [hn_new, hn_put, skip_n]; omega))) only [go_sem, heapN, g, s.len, p1, p2, g0, hw, a1]
      refine ⟨rows.length - (i + 1), by omega, i + 1, vo, v', by simp, rfl, by omega, ?_⟩
      rw [ht, List.filter_append, List.filter_append]
      simpa [hpy, hax] using a2.at2.drop.at2
  · have hie : rows.take i = rows := List.take_of_length_le (by omega)
    rw [hie] at hk
    have h1 := hk.at2.one
    simp (disch := (first | omega | assumption | rfl | (simp only [hn_new, hn_put, skip_n]; omega))) only [go_sem, heapN, g, s.len, h1]
    have := (hk.at3.put (.rows 3 [[.int .i64 cap, vs, .int .i64 last]] false none none)).at3
    exact (rd_close (this.at2).at4.drop ⟨fun y hy => pp.wide y (List.mem_filter.1 hy).1, pp.c1, Nat.le_trans (List.length_filter_le ..) hm⟩).at2

def isNils : AV → Bool
  | .nils => true
  | _ => false
/-- a copy of a list -/
theorem clone_h {v : AV} (hn : 1 ≤ n) (k : Hs h0 L h) (hv : SlR h 34 v rows) (hb : ∀ x, blkOf v = some x → x < h.n) (h1 : rows.length ≤ 1000) (hk : binop env .eql 30 v .nils = some (.bool (isNils v))) (hz : v = .nils → rows = []) :
    ∃ v' h', callX env sums n 62 [v] h = some (v', h') ∧ Hs h0 (LsC 34 v' rows :: L) h' ∧ Keep h h' [] := by
  obtain ⟨n, rfl⟩ : ∃ k, n = k + 1 := ⟨n - 1, by omega⟩
  suffices hh : W.Spec env sums (n + 1) 62 [v] h (fun v' h' => Hs h0 (LsC 34 v' rows :: L) h' ∧ Keep h h' []) by
    obtain ⟨vo, h', e, q⟩ := hh; exact ⟨vo, h', e, q⟩
  refine spec_trN [.v v] rfl ft62 (by kernel_rfl) (tn62 ..) ?_
  by_cases hv0 : v = .nils
  · have := hz hv0
    subst this hv0
    simp (disch := (first | omega | assumption | rfl | (simp only [hn_new, hn_put, skip_n]; omega))) only [go_sem, heapN, hk, isNils]
    exact ⟨k.nil 34, Keep.refl h _⟩
  · have hk' : binop env .eql 30 v .nils = some (.bool false) := by
      rw [hk]; cases v <;> first | rfl | exact absurd rfl hv0
    have kn : Keep h (h.new (.rows 34 [] false none none)) [] := (Keep.refl h _).new _
    obtain ⟨v', h', a1, a2, a3, _⟩ := (k.more kn).clone (v := .sl h.n 0 0 0) (es := 34) (by omega) 336 (.inr ⟨h.n, rfl, by rw [hn_new]; omega⟩) (SlR.new hv hb _) (by omega) (by omega)
    simp (disch := (first | omega | assumption | rfl | (simp only [hn_new, hn_put, skip_n]; omega))) only [go_sem, heapN, hk', a1]
    exact ⟨a2, kn.trans a3⟩

theorem eqn30 {v : AV} {h : Go.Abs.H} {S : List Nat} (k : Lst h 34 v rows S) : binop env .eql 30 v .nils = some (.bool (isNils v)) ∧ (v = .nils → rows = []) := by
  rcases k with ⟨rfl, rfl | ⟨b, rfl, _⟩, _⟩ | ⟨b, p, pre, rfl, _⟩
  · exact ⟨by kernel_rfl, fun _ => rfl⟩
  · exact ⟨by kernel_rfl, fun e => by cases e⟩
  · exact ⟨by kernel_rfl, fun e => by cases e⟩
theorem copy_h (hn : 3 ≤ n) (k : Hs h0 (RdC r cap last rows :: L) h) : ∃ c h', callX env sums n 22 [.ptr r 0] h = some (.ptr c 0, h') ∧ Hs h0 (RdC c cap last rows :: RdC r cap last rows :: L) h' := by
  obtain ⟨n, rfl⟩ : ∃ k, n = k + 1 := ⟨n - 1, by omega⟩
  obtain ⟨pp, v, ho, k2⟩ := rd_open k
  have hm := pp.many
  have g := k2.get
  have hrn := k2.lt.2
  obtain ⟨S, q, _⟩ := k2.at2.read
  obtain ⟨q1, q2⟩ := eqn30 q.1
  suffices hh : W.Spec env sums (n + 1) 22 [.ptr r 0] h (fun a h' => ∃ c, a = .ptr c 0 ∧ Hs h0 (RdC c cap last rows :: RdC r cap last rows :: L) h') by
    obtain ⟨a, h', e, c, rfl, q⟩ := hh; exact ⟨c, h', e, q⟩
  have k3 := k2.skip (n := 16) (i := 14) (by omega)
  obtain ⟨v', h', a1, a2, a3⟩ := clone_h (n := n) (by omega) k3 (rows := rows) k3.at3.sl k3.at3.blt hm q1 q2
  have hsn := a3.1
  rw [skip_n] at hsn
  have g2 := a2.at3.get
  have h1 := a2.one
  refine spec_trN [.ptr r 0] rfl ft22 (by kernel_rfl) (tn22 ..) ?_
  simp (disch := (first | omega | assumption | rfl | (simp only [hn_new, hn_put, skip_n]; omega))) only [go_sem, heapN, none_h (n := n) (by omega) k, g, a1, g2, h1]
  refine ⟨_, rfl, ?_⟩
  have := rd_close (a2.at2.fput (.rows 3 [[.int .i64 cap, v', .int .i64 last]] false none none)) pp
  exact (rd_close this.to3 pp).at2
theorem put_q (hn : 1 ≤ n) (k : Hs h0 (RdC r cap last rows :: L) h) (hc : cap ≤ 16) (hl : 0 ≤ last ∧ last ≤ 1000000) {f x : List AV} (h1 : f.length = 29) (h2 : x.length = 4) (s1 : sameL f f = true) (s2 : sameL x x = true) :
    ∃ h', callX env sums n 23 [.ptr r 0, .agg f, .agg x] h = some (if (rows.length : Int) < cap then .tup [.int .i64 (last + 1), .int .i64 0] else .tup [.int .i64 0, .int .i64 60], h') ∧
      Hs h0 (RdC r cap (if (rows.length : Int) < cap then last + 1 else last) (if (rows.length : Int) < cap then rows ++ [.int .i64 (last + 1) :: (f ++ x)] else rows) :: L) h' := by
  obtain ⟨n, rfl⟩ : ∃ k, n = k + 1 := ⟨n - 1, by omega⟩
  obtain ⟨pp, v, ho, k2⟩ := rd_open k
  have hm := pp.many
  have k4 := (k2.new (.rows 29 [f] false none none)).new (.rows 4 [x] false none none)
  rw [hn_new] at k4
  have k5 := k4.more ((Keep.refl _ _).skip 10)
  have hrn := k2.lt.2
  suffices hh : W.Spec env sums (n + 1) 23 [.ptr r 0, .agg f, .agg x] h (fun a h' => a = (if (rows.length : Int) < cap then .tup [.int .i64 (last + 1), .int .i64 0] else .tup [.int .i64 0, .int .i64 60]) ∧
      Hs h0 (RdC r cap (if (rows.length : Int) < cap then last + 1 else last) (if (rows.length : Int) < cap then rows ++ [.int .i64 (last + 1) :: (f ++ x)] else rows) :: L) h') by
    obtain ⟨a, h', e, rfl, q⟩ := hh; exact ⟨h', e, q⟩
  have g := k2.get
  have hsl := k2.at2.sl
  by_cases hf : (rows.length : Int) < cap
  · simp only [if_pos hf]
    have k6 := (k5.at3.put (.rows 3 [[.int .i64 cap, v, .int .i64 (last + 1)]] false none none))
    have k7 := k6.skip (n := 18) (i := 13) (by omega)
    obtain ⟨v14, h15, a1, a2, a3, _⟩ := k7.clone (v := .nils) (es := 34) (by omega) 336 (.inl rfl) k7.at5.sl (by omega) (by omega)
    have gq := a2.at3.get
    have gx := a2.at4.get
    have gf := a2.at5.get
    have k8 := a2.at2.fput (.rows 34 [.int .i64 (last + 1) :: (f ++ x)] false none none)
    obtain ⟨v22, h23, b1, b2, b3⟩ := k8.at2.app (by omega) 336 (rows_one k8.get (by omega) 1) (by simp; omega) (by simp; omega)
    have gq2 := b2.at3.get
    have ho := b2.one
    have hle : (.int .i64 (last + 1) :: (f ++ x) : List AV).length = 34 := by simp [h1, h2]
    simp only [hn_new, hn_put, skip_n] at a1 b1 gq gx gf k8
    refine spec_trN [.ptr r 0, .agg f, .agg x] rfl ft23 (by kernel_rfl) (tn23 ..) ?_
    simp (disch := (first | omega | assumption | rfl | (simp only [hn_new, hn_put, skip_n]; omega))) only [go_sem, h1, h2, g, hsl.len, hn_new, a1, gq, gx, gf, over_f h1, over_x h1 h2, hle, b1, ho, gq2, s1, s2, k4.get]
    exact (rd_close (b2.at3.put _) ⟨fun y hy => by
      rcases List.mem_append.1 hy with hy | hy
      · exact pp.wide y hy
      · rw [List.mem_singleton] at hy; subst hy; exact hle, pp.c1, by simp; omega⟩).at2.drop.at2.drop.at2.drop.at2.drop
  · simp only [if_neg hf]
    refine spec_trN [.ptr r 0, .agg f, .agg x] rfl ft23 (by kernel_rfl) (tn23 ..) ?_
    simp (disch := (first | omega | assumption | rfl | (simp only [hn_new, hn_put, skip_n]; omega))) only [go_sem, h1, h2, g, hsl.len]
    exact rd_close k5.at2.drop.drop pp
end
end Go.Proofs.Ytpfgbnmeaalpdaa
