/-
  Classes: Waiting.
-/
import Derived.Test.YtdncenepmkbolaaSchedJ
import Derived.Test.YtdncenepmkbolaaSw
namespace Go.Proofs.Ytdncenepmkbolaa
open Go Go.Abs Go.Abs.S Go.Abs.W
set_option maxRecDepth 10000
set_option maxHeartbeats 2000000
section
variable {h0 h : Go.Abs.H} {L : List Ch} {n s N : Nat} {v : AV} {cls : List Cl} {turn : Int} {stale : Bool}
theorem sl_swap {X Y : Ch} (k : Hs h0 (SL s v N cls turn stale (X :: Y :: L)) h) : Hs h0 (SL s v N cls turn stale (Y :: X :: L)) h :=
  k.perm (((List.Perm.append_left _ (List.Perm.swap _ _ _)).cons _).cons _)
theorem s_wait (hn : 40 ≤ n) (k : Hs h0 (SL s v N cls turn stale L) h) (hne : cls ≠ []) (hle : cls.length ≤ 4) (hN : N ≤ 16) (hq : ∀ c ∈ cls, c.qs.length ≤ N) :
    ∃ vg h', callX env sums n 38 [.ptr s 0] h = some (vg, h') ∧ ∃ gs : List Fr, gs.map af = (QS cls).flatten ∧ Hs h0 (LsC 29 vg (gs.map Fr.cs) :: SL s v N cls turn stale L) h' := by
  obtain ⟨n, rfl⟩ : ∃ k, n = k + 1 := ⟨n - 1, by omega⟩
  suffices hh : W.Spec env sums (n + 1) 38 [.ptr s 0] h (fun vg h' => ∃ gs : List Fr, gs.map af = (QS cls).flatten ∧ Hs h0 (LsC 29 vg (gs.map Fr.cs) :: SL s v N cls turn stale L) h') by
    obtain ⟨a, h', e, q⟩ := hh; exact ⟨a, h', e, q⟩
  have gs0 := k.get
  have sl0 := k.at2.sl.len
  rw [List.length_map] at sl0
  refine spec_trN [.ptr s 0] rfl ft38 (by kernel_rfl) (tn38 ..) ?_
  simp (disch := (first | omega | assumption | rfl | (simp only [hn_new, hn_put, skip_n]; omega))) only [go_sem, s_none (n := n) (by omega) k hne, gs0, sl0]
  refine ⟨fun l m h => ∃ (i : Nat) (vg : AV) (gs : List Fr), l = [vg, .int .i64 i] ∧ m = cls.length - i ∧ i ≤ cls.length ∧ gs.map af = (QS (cls.take i)).flatten ∧ gs.length ≤ 16 * i ∧ Hs h0 (SL s v N cls turn stale (LsC 29 vg (gs.map Fr.cs) :: L)) h, ⟨cls.length, by omega, 0, .nils, [], rfl, by omega, by omega, by simp, by simp, sl_in (k.nil 29)⟩, ?_⟩
  intro a7 n8 m9 h10 ⟨i, vg, gs, e, hm, hi, hg, hgl, k10⟩
  cases e; subst hm
  by_cases hlt : (i : Int) < cls.length
  rotate_left
  · have hie : i = cls.length := by omega
    subst hie
    simp (disch := (first | omega | assumption | rfl | (simp only [hn_new, hn_put, skip_n]; omega))) only [go_sem]
    rw [List.take_length] at hg
    exact ⟨gs, hg, sl_out k10⟩
  obtain ⟨c, hc⟩ : ∃ c, cls[i]? = some c := ⟨cls[i], List.getElem?_eq_getElem (by omega)⟩
  have hcl := hq c (List.mem_of_getElem? hc)
  obtain ⟨b, o, e1, e2, _, _⟩ := k10.at2.sl.idx (rows_get hc)
  have k16 := sl_in ((k10.new (.rows 4 [[.nilp, .int .i64 0, .int .i64 0, .int .i64 0]] false none none)).put (.rows 4 [c.row] false none none))
  have hg16 := (sl_out k16).get
  have ov4 : over c.row [.nilp, .int .i64 0, .int .i64 0, .int .i64 0] = some c.row := rfl
  simp (disch := (first | omega | assumption | rfl | (simp only [hn_new, hn_put, skip_n]; omega))) only [go_sem, e1, e2, c.rlen, ov4, hg16, show nth c.row 0 = some (.ptr c.r 0) from rfl, ring_len (n := n) (by omega) (ring_out hc k16)]
  generalize hh16 : (h10.new (Blk.rows 4 [[.nilp, .int .i64 0, .int .i64 0, .int .i64 0]] false none none)).put h10.n (Blk.rows 4 [c.row] false none none) = h16 at k16 hg16 ⊢
  generalize hb14 : h10.n = b14 at k16 hg16 ⊢
  clear hh16 hg16
  refine ⟨fun l m h => ∃ (j : Nat) (vg : AV) (gs : List Fr), l = [vg, .int .i64 j] ∧ m = c.qs.length - j ∧ j ≤ c.qs.length ∧ gs.map af = (QS (cls.take i)).flatten ++ c.qs.take j ∧ gs.length ≤ 16 * i + j ∧ Hs h0 (SL s v N cls turn stale (Cell b14 (.rows 4 [c.row] false none none) :: LsC 29 vg (gs.map Fr.cs) :: L)) h, ⟨c.qs.length, by omega, 0, a7, gs, rfl, by omega, by omega, by simpa using hg, by omega, k16⟩, ?_⟩
  intro a23 n24 m25 h26 ⟨j, vg, gs, e, hm, hj, hg, hgl, k26⟩
  cases e; subst hm
  have hg26 := (sl_out k26).get
  by_cases hjt : (j : Int) < c.qs.length
  · obtain ⟨a, ha⟩ : ∃ a, c.qs[j]? = some a := ⟨c.qs[j], List.getElem?_eq_getElem (by omega)⟩
    have hta : c.qs.take (j + 1) = c.qs.take j ++ [a] := by rw [List.take_add_one, ha]; rfl
    simp (disch := (first | omega | assumption | rfl | (simp only [hn_new, hn_put, skip_n]; omega))) only [go_sem, hg26, show nth c.row 0 = some (.ptr c.r 0) from rfl]
    refine on2_exb (g := fun g : Fr => .tup [.agg g.cs, .bool true]) (ring_at (by omega) (ring_out hc k26) ha) fun f h29 ⟨hfa, k29⟩ => ?_
    have k29 := sl_out (sl_swap (ring_back hc k29))
    have kc := ((k29.new (.rows 29 [zeroC] false none none)).put (.rows 29 [f.cs] false none none)).drop.new (.rows 29 [f.cs] false none none)
    have frow : ((List.map Fr.cs gs).length + (([] : List (List AV)).length + 1)) * 288 ≤ 1099511627776 ∧ (List.map Fr.cs gs).length + (([] : List (List AV)).length + 1) ≤ 1099511627776 := by simp; omega
    obtain ⟨v', h39, q1, q2, q3⟩ := kc.at2.app (by omega) 288 (rows_one kc.get (by omega) 1) frow.1 frow.2
    have hn29 : ((h29.new (Blk.rows 29 [zeroC] false none none)).put h29.n (Blk.rows 29 [f.cs] false none none)).n = h29.n + 1 := rfl
    rw [hn29] at q1
    have ov : over f.cs zeroC = some f.cs := over_full f.len
    simp (disch := (first | omega | assumption | rfl | (simp only [hn_new, hn_put, skip_n]; omega))) only [go_sem, f.len, ov, q1]
    refine ⟨c.qs.length - (j + 1), by omega, j + 1, v', gs ++ [f], by simp, rfl, by omega, ?_, by simp; omega, ?_⟩
    · rw [List.map_append, hg, hta]; simp [hfa]
    · rw [List.map_append]
      exact sl_swap (sl_in q2.at2.drop)
  · have hje : j = c.qs.length := by omega
    subst hje
    simp (disch := (first | omega | assumption | rfl | (simp only [hn_new, hn_put, skip_n]; omega))) only [go_sem]
    refine ⟨cls.length - (i + 1), by omega, i + 1, a23, gs, by simp, rfl, by omega, ?_, by omega, ?_⟩
    · rw [hg, List.take_length, List.take_add_one, hc]; simp
    · exact (sl_out k26).drop
end
end Go.Proofs.Ytdncenepmkbolaa
