/-
  History: what calls, and their ends, come to, in plain lists.
-/
import Derived.Test.YtpfgbnmeaalpdaaHistB
namespace Go.Proofs.Ytpfgbnmeaalpdaa
open Go Go.Abs Go.Abs.S Go.Abs.W
set_option maxRecDepth 10000
set_option maxHeartbeats 1000000

/-- how many begins and ends an event is -/
noncomputable def cnt (e : Int) (rs : List (List AV)) : Nat := rs.countP (fun x => decide (cI x 6 = e)) + rs.countP (fun x => decide (cI x 7 = e))
/-- what holds of records -/
structure Inv (rs : List (List AV)) (E : Int) (ls : Nat → Int) : Prop where
  row : ∀ x ∈ rs, Fits RK x
  E0 : 0 ≤ E
  frm : ∀ x ∈ rs, 0 ≤ cI x 6 ∧ cI x 6 < E ∧ (cI x 7 = -1 ∧ cI x 8 = 0 ∨ cI x 6 < cI x 7 ∧ cI x 7 < E ∧ 1 ≤ cI x 8)
  pw : ∀ (k l : Nat) (a b : List AV), k < l → rs[k]? = some a → rs[l]? = some b → cI a 6 < cI b 6 ∧ (cI a 0 = cI b 0 → 0 ≤ cI a 7 ∧ cI a 7 < cI b 6 ∧ cI a 1 < cI b 1)
  one : ∀ e, 0 ≤ e → e < E → cnt e rs = 1
  last : ∀ j : Nat, j < 6 → (ls j = 0 ∧ ∀ x ∈ rs, cI x 0 ≠ j) ∨ ∃ (i : Nat) (x : List AV), ls j = i + 1 ∧ rs[i]? = some x ∧ cI x 0 = j ∧ ∀ (k : Nat) (y : List AV), i < k → rs[k]? = some y → cI y 0 ≠ j
theorem Inv.start : Inv [] 0 fun _ => 0 := ⟨by simp, by omega, by simp, by simp, fun e h1 h2 => by omega, fun j _ => .inl ⟨rfl, by simp⟩⟩
section
variable {rs : List (List AV)} {E s : Int} {ls : Nat → Int} {o x : List AV} {i j : Nat}
theorem Inv.lasts (k : Inv rs E ls) : Lasts rs ls := fun j hj => by
  rcases k.last j hj with ⟨h, _⟩ | ⟨i, x, h1, h2, _⟩
  · exact .inl h
  · exact .inr ⟨i, x, h1, h2⟩
theorem new_cells (c : Int) (hf : Fits [.i, .s, .s, .i] o) : cI (newRec c s o E) 0 = c ∧ cI (newRec c s o E) 1 = s ∧ cI (newRec c s o E) 6 = E ∧ cI (newRec c s o E) 7 = -1 ∧ cI (newRec c s o E) 8 = 0 ∧ Fits RK (newRec c s o E) ∧ ((newRec c s o E).drop 2).take 4 = o := by
  obtain ⟨_, _, rfl, ⟨k, rfl⟩, _, _, rfl, ⟨s', rfl⟩, _, _, rfl, ⟨t, rfl⟩, _, _, rfl, ⟨w, rfl⟩, rfl⟩ := hf
  exact ⟨rfl, rfl, rfl, rfl, rfl, ⟨_, _, rfl, ⟨_, rfl⟩, _, _, rfl, ⟨_, rfl⟩, _, _, rfl, ⟨_, rfl⟩, _, _, rfl, ⟨_, rfl⟩, _, _, rfl, ⟨_, rfl⟩, _, _, rfl, ⟨_, rfl⟩, _, _, rfl, ⟨_, rfl⟩, _, _, rfl, ⟨_, rfl⟩, _, _, rfl, ⟨_, rfl⟩, _, _, rfl, ⟨_, rfl⟩, _, _, rfl, ⟨_, rfl⟩, _, _, rfl, ⟨_, rfl⟩, _, _, rfl, ⟨_, rfl⟩, _, _, rfl, ⟨_, rfl⟩, rfl⟩, rfl⟩
theorem end_cells (hx : Fits RK x) (hf : Fits OK6 o) : (∀ j, j < 7 → cI (endRec x o E) j = cI x j) ∧ cI (endRec x o E) 7 = E ∧ cI (endRec x o E) 8 = cI o 0 ∧ Fits RK (endRec x o E) := by
  have hxl : x.length = 14 := hx.length
  have h7 : (x.take 7).length = 7 := by simp [hxl]
  refine ⟨fun j hj => ?_, ?_, ?_, ?_⟩
  · unfold cI endRec
    rw [nth_eq, nth_eq, List.getElem?_append_left (by omega), List.getElem?_take_of_lt hj]
  · unfold cI endRec
    rw [nth_eq, List.getElem?_append_right (by omega), h7]; rfl
  · unfold cI endRec
    rw [nth_eq, List.getElem?_append_right (by omega), h7, nth_eq]; rfl
  · exact (hx.take 7).append (b := .i :: OK6) ⟨_, _, rfl, ⟨_, rfl⟩, hf⟩
theorem cnt_append (e : Int) (y : List AV) : cnt e (rs ++ [y]) = cnt e rs + (if cI y 6 = e then 1 else 0) + (if cI y 7 = e then 1 else 0) := by
  unfold cnt
  simp only [List.countP_append, List.countP_singleton, decide_eq_true_eq]
  omega
theorem cnt_zero {e : Int} (h : ∀ x ∈ rs, cI x 6 ≠ e ∧ cI x 7 ≠ e) : cnt e rs = 0 := by
  unfold cnt
  rw [List.countP_eq_zero.2 fun x hx => by simp [(h x hx).1], List.countP_eq_zero.2 fun x hx => by simp [(h x hx).2]]
theorem Inv.call (k : Inv rs E ls) (hj : j < 6) (hf : Fits [.i, .s, .s, .i] o) (hc : ls j = 0 ∨ ∃ (i : Nat) (x : List AV), ls j = i + 1 ∧ rs[i]? = some x ∧ 0 ≤ cI x 7 ∧ cI x 1 < s) :
    Inv (rs ++ [newRec j s o E]) (E + 1) (upd ls j (rs.length + 1)) := by
  obtain ⟨c0, c1, c6, c7, c8, cf, _⟩ := new_cells (s := s) (E := E) (j : Int) hf
  have hE := k.E0
  have none : cnt E rs = 0 := cnt_zero fun x hx => by
    have := k.frm x hx; omega
  refine ⟨fun x hx => ?_, by omega, fun x hx => ?_, fun p q a b hpq ha hb => ?_, fun e h1 h2 => ?_, fun j' hj' => ?_⟩
  · rcases List.mem_append.1 hx with hx | hx
    · exact k.row x hx
    · rw [List.mem_singleton] at hx; subst hx; exact cf
  · rcases List.mem_append.1 hx with hx | hx
    · have := k.frm x hx; omega
    · rw [List.mem_singleton] at hx; subst hx; rw [c6, c7, c8]; omega
  · rw [List.getElem?_append] at ha hb
    split at hb
    · rename_i hq
      rw [if_pos (by omega)] at ha
      exact k.pw p q a b hpq ha hb
    · rename_i hq
      have hq0 : q - rs.length = 0 := by
        rcases Nat.eq_zero_or_pos (q - rs.length) with h | h
        · exact h
        · rw [List.getElem?_eq_none (by simp; omega)] at hb; cases hb
      rw [hq0] at hb
      simp at hb; subst hb
      rw [if_pos (by omega)] at ha
      have hma := List.mem_of_getElem? ha
      have fa := k.frm a hma
      rw [c6, c0, c1]
      refine ⟨by omega, fun hcl => ?_⟩
      rcases k.last j hj with ⟨h1, h2⟩ | ⟨i, x, h1, h2, h3, h4⟩
      · exact absurd hcl (h2 a hma)
      · rcases hc with hc | ⟨i', x', e1, e2, e3, e4⟩
        · omega
        · have : i' = i := by omega
          subst this
          rw [h2] at e2; cases e2
          have fx := k.frm x (List.mem_of_getElem? h2)
          rcases Nat.lt_trichotomy p i' with hp | hp | hp
          · have := (k.pw p i' a x hp ha h2).2 (by omega)
            omega
          · subst hp
            rw [h2] at ha; cases ha
            omega
          · exact absurd hcl (h4 p a hp ha)
  · rw [cnt_append, c6, c7]
    by_cases he : e = E
    · subst he; rw [none, if_pos rfl, if_neg (by omega)]
    · rw [k.one e h1 (by omega), if_neg (by omega), if_neg (by omega)]
  · by_cases hjj : j' = j
    · subst hjj
      refine .inr ⟨rs.length, newRec j' s o E, by simp [upd], by simp, c0, fun q y hq hy => ?_⟩
      rw [List.getElem?_eq_none (by simp; omega)] at hy; cases hy
    · have hu : upd ls j (rs.length + 1) j' = ls j' := by simp [upd, hjj]
      rw [hu]
      rcases k.last j' hj' with ⟨h1, h2⟩ | ⟨i, x, h1, h2, h3, h4⟩
      · refine .inl ⟨h1, fun x hx => ?_⟩
        rcases List.mem_append.1 hx with hx | hx
        · exact h2 x hx
        · rw [List.mem_singleton] at hx; subst hx; rw [c0]; omega
      · have hil := (List.getElem?_eq_some_iff.1 h2).1
        refine .inr ⟨i, x, h1, by rw [List.getElem?_append_left hil]; exact h2, h3, fun q y hq hy => ?_⟩
        rw [List.getElem?_append] at hy
        split at hy
        · exact h4 q y hq hy
        · have hq0 : q - rs.length = 0 := by
            rcases Nat.eq_zero_or_pos (q - rs.length) with h | h
            · exact h
            · rw [List.getElem?_eq_none (by simp; omega)] at hy; cases hy
          rw [hq0] at hy
          simp at hy; subst hy
          rw [c0]; omega
theorem Inv.fin (k : Inv rs E ls) (hj : j < 6) (hf : Fits OK6 o) (ho : 1 ≤ cI o 0) (hl : ls j = i + 1) (hx : rs[i]? = some x) (h7 : cI x 7 < 0) : Inv (rs.set i (endRec x o E)) (E + 1) ls := by
  have hE := k.E0
  have hil := (List.getElem?_eq_some_iff.1 hx).1
  have hmx := List.mem_of_getElem? hx
  obtain ⟨e0, e7, e8, ef⟩ := end_cells (E := E) (k.row x hmx) hf
  have fx := k.frm x hmx
  have none : cnt E rs = 0 := cnt_zero fun x hx => by
    have := k.frm x hx; omega
  obtain ⟨h3, h4⟩ : cI x 0 = j ∧ ∀ (q : Nat) (y : List AV), i < q → rs[q]? = some y → cI y 0 ≠ j := by
    rcases k.last j hj with ⟨h1, _⟩ | ⟨i', x', h1, h2, h3, h4⟩
    · omega
    · have : i' = i := by omega
      subst this
      rw [hx] at h2; cases h2
      exact ⟨h3, h4⟩
  have hcnt : ∀ e, cnt e (rs.set i (endRec x o E)) + (if cI x 7 = e then 1 else 0) = cnt e rs + if E = e then 1 else 0 := fun e => by
    have hg : rs[i] = x := by rw [List.getElem?_eq_getElem hil] at hx; cases hx; rfl
    unfold cnt
    rw [List.countP_set hil, List.countP_set hil, hg, e7, e0 6 (by omega)]
    have p1 : 0 < rs.countP (fun x => decide (cI x 6 = e)) ∨ ¬ cI x 6 = e := by
      by_cases h : cI x 6 = e
      · exact .inl (List.countP_pos_iff.2 ⟨x, hmx, by simp [h]⟩)
      · exact .inr h
    have p2 : 0 < rs.countP (fun x => decide (cI x 7 = e)) ∨ ¬ cI x 7 = e := by
      by_cases h : cI x 7 = e
      · exact .inl (List.countP_pos_iff.2 ⟨x, hmx, by simp [h]⟩)
      · exact .inr h
    simp only [decide_eq_true_eq]
    by_cases q1 : cI x 6 = e <;> by_cases q2 : cI x 7 = e <;> by_cases q3 : E = e <;> simp only [q1, q2, q3, if_true, if_false] <;> omega
  have key : ∀ (q : Nat) (y : List AV), (rs.set i (endRec x o E))[q]? = some y → (q = i ∧ y = endRec x o E) ∨ (q ≠ i ∧ rs[q]? = some y) := fun q y hy => by
    by_cases h : q = i
    · subst h; rw [List.getElem?_set_self hil] at hy; cases hy; exact .inl ⟨rfl, rfl⟩
    · rw [List.getElem?_set_ne (fun e => h e.symm)] at hy; exact .inr ⟨h, hy⟩
  refine ⟨fun y hy => ?_, by omega, fun y hy => ?_, fun p q a b hpq ha hb => ?_, fun e h1 h2 => ?_, fun j' hj' => ?_⟩
  · rcases List.mem_or_eq_of_mem_set hy with hy | rfl
    · exact k.row y hy
    · exact ef
  · rcases List.mem_or_eq_of_mem_set hy with hy | rfl
    · have := k.frm y hy; omega
    · rw [e0 6 (by omega), e7, e8]; omega
  · rcases key p a ha with ⟨rfl, rfl⟩ | ⟨hp, ha'⟩ <;> rcases key q b hb with ⟨rfl, rfl⟩ | ⟨hq, hb'⟩
    · omega
    · have := k.pw p q x b hpq hx hb'
      rw [e0 6 (by omega), e0 0 (by omega)]
      refine ⟨this.1, fun hcl => ?_⟩
      exact absurd (by omega) (h4 q b hpq hb')
    · have := k.pw p q a x hpq ha' hx
      rw [e0 6 (by omega), e0 0 (by omega), e0 1 (by omega)]
      exact this
    · exact k.pw p q a b hpq ha' hb'
  · have hc := hcnt e
    by_cases he : e = E
    · subst he
      rw [none, if_neg (by omega), if_pos rfl] at hc; omega
    · rw [k.one e h1 (by omega), if_neg (by omega), if_neg (fun h => he h.symm)] at hc; omega
  · rcases k.last j' hj' with ⟨h1, h2⟩ | ⟨i', x', h1, h2, h5, h6⟩
    · refine .inl ⟨h1, fun y hy => ?_⟩
      rcases List.mem_or_eq_of_mem_set hy with hy | rfl
      · exact h2 y hy
      · rw [e0 0 (by omega)]; exact h2 x hmx
    · by_cases hii : i' = i
      · subst hii
        rw [hx] at h2; cases h2
        refine .inr ⟨i', endRec x o E, h1, List.getElem?_set_self hil, by rw [e0 0 (by omega)]; exact h5, fun q y hq hy => ?_⟩
        rcases key q y hy with ⟨rfl, _⟩ | ⟨_, hy'⟩
        · omega
        · exact h6 q y hq hy'
      · refine .inr ⟨i', x', h1, by rw [List.getElem?_set_ne (fun e => hii e.symm)]; exact h2, h5, fun q y hq hy => ?_⟩
        rcases key q y hy with ⟨rfl, rfl⟩ | ⟨_, hy'⟩
        · rw [e0 0 (by omega)]; exact h6 q x hq hx
        · exact h6 q y hq hy'
end
end Go.Proofs.Ytpfgbnmeaalpdaa
