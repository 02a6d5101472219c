/-
  Classes: Expire.
-/
import Derived.Test.YtdncenepmkbolaaSchedD
namespace Go.Proofs.Ytdncenepmkbolaa
open Go Go.Abs Go.Abs.S Go.Abs.W
set_option maxRecDepth 10000
set_option maxHeartbeats 2000000

/-- a frame's class, deadline, number -/
structure AOk (a : AF) : Prop where
  seq : nth a.1 3 = some (.int .i64 (cI a.1 3))
  cls : nth a.1 5 = some (.int .i64 (cI a.1 5))
  dl : nth a.1 6 = some (.int .i64 (cI a.1 6))
noncomputable def late (now : Int) (a : AF) : Bool := decide (cI a.1 6 < now)
noncomputable def expC (now : Int) (c : Cl) : Cl := { c with qs := c.qs.filter fun a => !late now a, cr := if (c.qs.filter fun a => !late now a) = [] then 0 else c.cr }
noncomputable def expG (now : Int) (cls : List Cl) : List AF := (cls.map fun c => c.qs.filter (late now)).flatten
section
variable {h0 h : Go.Abs.H} {L : List Ch} {n s N : Nat} {v : AV} {cls : List Cl} {turn : Int} {stale : Bool} {now : Int}
theorem s_expire (hn : 40 ≤ n) (k : Hs h0 (SL s v N cls turn stale L) h) (hne : cls ≠ []) (hle : cls.length ≤ 4) (hN : N ≤ 16) (hq : ∀ c ∈ cls, c.qs.length ≤ N ∧ ∀ a ∈ c.qs, AOk a) :
    ∃ vg h', callX env sums n 39 [.ptr s 0, .int .i64 now] h = some (vg, h') ∧ ∃ gs : List Fr, gs.map af = expG now cls ∧ Hs h0 (LsC 29 vg (gs.map Fr.cs) :: SL s v N (cls.map (expC now)) turn stale L) h' := by
  obtain ⟨n, rfl⟩ : ∃ k, n = k + 1 := ⟨n - 1, by omega⟩
  suffices hh : W.Spec env sums (n + 1) 39 [.ptr s 0, .int .i64 now] h (fun vg h' => ∃ gs : List Fr, gs.map af = expG now cls ∧ Hs h0 (LsC 29 vg (gs.map Fr.cs) :: SL s v N (cls.map (expC now)) turn stale L) h') by
    obtain ⟨a, h', e, q⟩ := hh; exact ⟨a, h', e, q⟩
  have gs0 := k.get
  have sl0 := k.at2.sl.len
  rw [List.length_map] at sl0
  refine spec_trN [.ptr s 0, .int .i64 now] rfl ft39 (by kernel_rfl) (tn39 ..) ?_
  simp (disch := (first | omega | assumption | rfl | (simp only [hn_new, hn_put, skip_n]; omega))) only [go_sem, s_none (n := n) (by omega) k hne, gs0, sl0]
  refine ⟨fun l m h => ∃ (i : Nat) (vg : AV) (gs : List Fr), l = [vg, .int .i64 i] ∧ m = cls.length - i ∧ i ≤ cls.length ∧ gs.map af = expG now (cls.take i) ∧ gs.length ≤ 16 * i ∧ Hs h0 (SL s v N ((cls.take i).map (expC now) ++ cls.drop i) turn stale (LsC 29 vg (gs.map Fr.cs) :: L)) h, ⟨cls.length, by omega, 0, .nils, [], rfl, by omega, by omega, by simp [expG], by simp, by simpa using sl_in (k.nil 29)⟩, ?_⟩
  intro a7 n8 m9 h10 ⟨i, vg, gs, e, hm, hi, hg, hgl, k10⟩
  cases e; subst hm
  by_cases hlt : (i : Int) < cls.length
  rotate_left
  · have hie : i = cls.length := by omega
    subst hie
    simp (disch := (first | omega | assumption | rfl | (simp only [hn_new, hn_put, skip_n]; omega))) only [go_sem]
    rw [List.take_length] at hg k10
    rw [List.drop_length, List.append_nil] at k10
    exact ⟨gs, hg, sl_out k10⟩
  obtain ⟨c, hc⟩ : ∃ c, cls[i]? = some c := ⟨cls[i], List.getElem?_eq_getElem (by omega)⟩
  obtain ⟨hcl, hca⟩ := hq c (List.mem_of_getElem? hc)
  generalize hcl0 : (cls.take i).map (expC now) ++ cls.drop i = cl at k10
  have hcll : cl.length = cls.length := by rw [← hcl0]; simp; omega
  have hci : cl[i]? = some c := by
    rw [← hcl0, List.getElem?_append_right (by simp; omega)]
    simp only [List.length_map, List.length_take, Nat.min_eq_left hi, Nat.sub_self]
    rw [List.getElem?_drop]; simpa using hc
  obtain ⟨b, o, e1, _, e3, _⟩ := k10.at2.sl.idx (rows_get hci)
  have gs10 := k10.get
  have g0 : cellG o (h10.get b) = some (.ptr c.r 0) := by have := e3 0 (by omega); rw [cellQ_some _ _ _ (by omega)] at this; exact this
  simp (disch := (first | omega | assumption | rfl | (simp only [hn_new, hn_put, skip_n]; omega))) only [go_sem, gs10, e1, g0, ring_len (n := n) (by omega) (ring_out hci k10)]
  refine ⟨fun l m h => ∃ (j : Nat) (vg : AV) (gs : List Fr), l = [vg, .int .i64 j] ∧ m = c.qs.length - j ∧ j ≤ c.qs.length ∧ gs.map af = expG now (cls.take i) ++ (c.qs.take j).filter (late now) ∧ gs.length ≤ 16 * i + j ∧ Hs h0 (SL s v N (cl.set i { c with qs := c.qs.drop j ++ (c.qs.take j).filter fun a => !late now a }) turn stale (LsC 29 vg (gs.map Fr.cs) :: L)) h, ⟨c.qs.length, by omega, 0, a7, gs, rfl, by omega, by omega, by simpa using hg, by omega, by simpa [set_self hci] using k10⟩, ?_⟩
  intro a20 n21 m22 h23 ⟨j, vg, gs, e, hm, hj, hg, hgl, k23⟩
  cases e; subst hm
  have hcj : (cl.set i { c with qs := c.qs.drop j ++ (c.qs.take j).filter fun a => !late now a })[i]? = some { c with qs := c.qs.drop j ++ (c.qs.take j).filter fun a => !late now a } := List.getElem?_set_self (by omega)
  obtain ⟨b1, o1, u1, _, u3, _⟩ := k23.at2.sl.idx (rows_get hcj)
  rw [e1] at u1; cases u1
  have g1 : cellG o (h23.get b) = some (.ptr c.r 0) := by have := u3 0 (by omega); rw [cellQ_some _ _ _ (by omega)] at this; exact this
  by_cases hjt : (j : Int) < c.qs.length
  · obtain ⟨a, ha⟩ : ∃ a, c.qs[j]? = some a := ⟨c.qs[j], List.getElem?_eq_getElem (by omega)⟩
    have hdr : c.qs.drop j = a :: c.qs.drop (j + 1) := by
      rw [List.drop_eq_getElem_cons (by omega)]; congr 1
      rw [List.getElem?_eq_getElem (by omega)] at ha; cases ha; rfl
    have hta : c.qs.take (j + 1) = c.qs.take j ++ [a] := by rw [List.take_add_one, ha]; rfl
    have hao := hca a (List.mem_of_getElem? ha)
    have kr := ring_out hcj k23
    rw [hdr] at kr
    simp (disch := (first | omega | assumption | rfl | (simp only [hn_new, hn_put, skip_n]; omega))) only [go_sem, g1]
    refine on2_exb (g := fun g : Fr => .tup [.agg g.cs, .bool true]) (ring_pop (by omega) kr) fun f h26 ⟨hfa, k26⟩ => ?_
    have k26 := ring_new_in (qs := c.qs.drop (j + 1) ++ (c.qs.take j).filter fun a => !late now a) hcj (by rw [hdr]; exact k26)
    rw [List.set_set] at k26
    have f6 : nth f.cs 6 = some (.int .i64 (cI a.1 6)) := by rw [fr_nth f (by omega), hfa]; exact hao.dl
    have ov : over f.cs zeroC = some f.cs := over_full f.len
    have k33 := sl_in ((k26.new (.rows 29 [zeroC] false none none)).put (.rows 29 [f.cs] false none none))
    have g33 := (sl_out k33).get
    simp (disch := (first | omega | assumption | rfl | (simp only [hn_new, hn_put, skip_n]; omega))) only [go_sem, f.len, ov, f6]
    have hn33 : ((h26.new (Blk.rows 29 [zeroC] false none none)).put h26.n (Blk.rows 29 [f.cs] false none none)).n = h26.n + 1 := rfl
    generalize hh33 : (h26.new (Blk.rows 29 [zeroC] false none none)).put h26.n (Blk.rows 29 [f.cs] false none none) = h33 at k33 g33 hn33 ⊢
    generalize hb31 : h26.n = b31 at k33 g33 hn33 ⊢
    have frow : ∀ x : Nat, ((List.map Fr.cs gs).length + (([] : List (List AV)).length + 1)) * 288 ≤ 1099511627776 ∧ (List.map Fr.cs gs).length + (([] : List (List AV)).length + 1) ≤ 1099511627776 := fun _ => by simp; omega
    by_cases hl : cI a.1 6 < now
    · have hla : late now a = true := by unfold late; exact decide_eq_true hl
      have kc := (sl_out (sl_out k33).drop).new (.rows 29 [f.cs] false none none)
      obtain ⟨v', h39, q1, q2, q3⟩ := kc.at2.app (by omega) 288 (rows_one kc.get (by omega) 1) (frow 0).1 (frow 0).2
      rw [hn33] at q1
      simp (disch := (first | omega | assumption | rfl | (simp only [hn_new, hn_put, skip_n]; omega))) only [go_sem, g33, f.len, q1]
      refine ⟨c.qs.length - (j + 1), by omega, j + 1, v', gs ++ [f], by simp, rfl, by omega, ?_, by simp; omega, ?_⟩
      · rw [List.map_append, hg, hta, List.filter_append]; simp [hla, hfa]
      · rw [hta, List.filter_append]
        have hf0 : [a].filter (fun a => !late now a) = [] := by simp [hla]
        rw [hf0, List.append_nil, List.map_append]
        exact sl_in q2.at2.drop
    · have hla : late now a = false := by unfold late; exact decide_eq_false hl
      have k41 := k33.more ((Keep.refl _ _).skip 6)
      have hcj2 : (cl.set i { c with qs := c.qs.drop (j + 1) ++ (c.qs.take j).filter fun a => !late now a })[i]? = some { c with qs := c.qs.drop (j + 1) ++ (c.qs.take j).filter fun a => !late now a } := List.getElem?_set_self (by omega)
      obtain ⟨b2, o2, w1, _, w3, _⟩ := k33.at2.sl.idx (rows_get hcj2)
      rw [e1] at w1; cases w1
      have g2 : cellG o (h33.get b) = some (.ptr c.r 0) := by have := w3 0 (by omega); rw [cellQ_some _ _ _ (by omega)] at this; exact this
      have hfl := List.length_filter_le (fun a => !late now a) (c.qs.take j)
      have hlt' : (c.qs.drop (j + 1) ++ (c.qs.take j).filter fun a => !late now a).length < N := by
        rw [List.length_append, List.length_drop]; rw [List.length_take] at hfl; omega
      simp (disch := (first | omega | assumption | rfl | (simp only [hn_new, hn_put, skip_n]; omega))) only [go_sem, g33, g2]
      refine on2_ex (ring_push (by omega) (ring_out hcj2 k41) hlt' f) fun h45 k45 => ?_
      have k45 := ring_new_in hcj2 k45
      rw [List.set_set, hfa] at k45
      simp (disch := (first | omega | assumption | rfl | (simp only [hn_new, hn_put, skip_n]; omega))) only [go_sem]
      refine ⟨c.qs.length - (j + 1), by omega, j + 1, a20, gs, by simp, rfl, by omega, ?_, by omega, ?_⟩
      · rw [hg, hta, List.filter_append]; simp [hla]
      · rw [hta, List.filter_append]
        have hf0 : [a].filter (fun a => !late now a) = [a] := by simp [hla]
        rw [hf0, ← List.append_assoc]
        exact (sl_out k45).drop
  · have hje : j = c.qs.length := by omega
    subst hje
    rw [List.take_length] at hg
    rw [List.take_length, List.drop_length, List.nil_append] at hcj k23
    have hset : cl.set i (expC now c) = (cls.take (i + 1)).map (expC now) ++ cls.drop (i + 1) := by
      rw [← hcl0, List.set_append_right _ _ (by simp; exact Nat.min_le_left _ _), List.length_map, List.length_take, Nat.min_eq_left hi, Nat.sub_self, List.take_add_one, hc]
      have hdr : cls.drop i = c :: cls.drop (i + 1) := by
        rw [List.drop_eq_getElem_cons (by omega)]; congr 1
        rw [List.getElem?_eq_getElem (by omega)] at hc; exact Option.some.inj hc
      rw [hdr]; simp
    have hgg : expG now (cls.take (i + 1)) = expG now (cls.take i) ++ c.qs.filter (late now) := by
      unfold expG; rw [List.take_add_one, hc]; simp
    have kl := ring_len (n := n) (by omega) (ring_out hcj k23)
    by_cases hz : (c.qs.filter fun a => !late now a) = []
    · obtain ⟨b3, o3, h51, p1, p2, k51⟩ := cr_write k23 hcj 0
      rw [e1] at p1; cases p1
      rw [List.set_set] at k51
      have hz0 : ((c.qs.filter fun a => !late now a).length : Int) = 0 := by rw [hz]; rfl
      simp (disch := (first | omega | assumption | rfl | (simp only [hn_new, hn_put, skip_n]; omega))) only [go_sem, g1, kl, hz0, p2]
      refine ⟨cls.length - (i + 1), by omega, i + 1, a20, gs, by simp, rfl, by omega, by rw [hg, hgg], by omega, ?_⟩
      rw [← hset]
      have : expC now c = { c with qs := c.qs.filter fun a => !late now a, cr := 0 } := by unfold expC; rw [if_pos hz]
      rw [this]; exact k51
    · have hz0 : ¬ ((c.qs.filter fun a => !late now a).length : Int) = 0 := by have := List.length_pos_iff.2 hz; omega
      simp (disch := (first | omega | assumption | rfl | (simp only [hn_new, hn_put, skip_n]; omega))) only [go_sem, g1, kl, hz0]
      refine ⟨cls.length - (i + 1), by omega, i + 1, a20, gs, by simp, rfl, by omega, by rw [hg, hgg], by omega, ?_⟩
      rw [← hset]
      have : expC now c = { c with qs := c.qs.filter fun a => !late now a } := by unfold expC; rw [if_neg hz]
      rw [this]; exact k23
end
end Go.Proofs.Ytdncenepmkbolaa
