/-
  Effects: stores, appends, copies, clears, calls.
-/
import Derived.Test.YtdncenepmkbolaaAbsY
namespace Go.Abs
open Go

section
variable {P : Program} {E : Env} {ρ : Pl} {fr : T AV} {ev : Operand → Value}

theorem idx_inj {es i j i' j' : Nat} (hj : j < es) (hj' : j' < es) (h : i * es + j = i' * es + j') : i = i' ∧ j = j' := by
  have h1 : i = i' := by
    have a : (i * es + j) / es = i := by
      rw [Nat.mul_comm, Nat.mul_add_div (by omega), Nat.div_eq_of_lt hj]; omega
    have b : (i' * es + j') / es = i' := by
      rw [Nat.mul_comm, Nat.mul_add_div (by omega), Nat.div_eq_of_lt hj']; omega
    rw [← a, ← b, h]
  subst h1
  exact ⟨rfl, by omega⟩

/-- a run of cells written: the rows that then stand there -/
theorem RowsOk.write {w : World} {l : Loc} {es : Nat} {rs rs' : List (List AV)} (hw : RowsOk ρ w l es rs) (hwid : ∀ (i : Nat) (r : List AV), rs'[i]? = some r → r.length = es) {s : Nat} {vs : List AV} {us : List Value} (hu : VL ρ vs us)
    (hpt : ∀ (i j : Nat) (r : List AV) (v : AV), rs'[i]? = some r → r[j]? = some v →
      (s ≤ i * es + j ∧ i * es + j < s + vs.length ∧ vs[i * es + j - s]? = some v) ∨ (¬ (s ≤ i * es + j ∧ i * es + j < s + vs.length) ∧ ∃ r0, rs[i]? = some r0 ∧ r0[j]? = some v))
    (hpres : ∀ j, j < us.length → ∃ u, w.cell? ⟨l.blk, l.off + s + j, none⟩ = some u) : RowsOk ρ (setCells w l.blk (l.off + s) us) l es rs' := by
  refine ⟨hwid, fun i j r v hi hj => ?_⟩
  have hul := hu.length
  rw [setCells_cell l.blk us (l.off + s) w hpres]
  rcases hpt i j r v hi hj with ⟨h1, h2, h3⟩ | ⟨h1, r0, h2, h3⟩
  · rw [if_pos (by omega)]
    obtain ⟨u, k1, k2⟩ := hu.get h3
    exact ⟨u, k2, by rw [← k1]; congr 1; omega⟩
  · rw [if_neg (by omega)]
    exact hw.cell i j r0 v h2 h3

theorem RowsMay.write {w : World} {l : Loc} {es n : Nat} (h : RowsMay w l es n) {o : Nat} {us : List Value} (hpres : ∀ j, j < us.length → ∃ u, w.cell? ⟨l.blk, o + j, none⟩ = some u) : RowsMay (setCells w l.blk o us) l es n :=
  ⟨h.wide, fun k hk => by rw [(setCells_rest l.blk us o w).2.2.2]; exact h.free k hk, fun k hk => by
    rw [setCells_cell l.blk us o w hpres]
    split
    · rename_i hh
      exact ⟨us[l.off + k - o]'(by omega), by simp⟩
    · exact h.there k hk, h.room⟩

/-- a run of cells may be written where they lie in a block's room -/
theorem RowsMay.run {w : World} {l : Loc} {es n : Nat} (h : RowsMay w l es n) {s : Nat} {us : List Value} (hfit : s + us.length ≤ n * es) :
    (∀ j, j < us.length → ∃ u, w.cell? ⟨l.blk, l.off + s + j, none⟩ = some u) ∧ (∀ j, j < us.length → w.frozen? ⟨l.blk, l.off + s + j, none⟩ = false) := by
  have hr : n * es ≤ l.room * es := Nat.mul_le_mul_right _ h.room
  exact ⟨fun j hj => by rw [Nat.add_assoc]; exact h.there _ (by omega), fun j hj => by rw [Nat.add_assoc]; exact h.free _ (by omega)⟩

theorem VL.one {cs : List AV} {us : List Value} (h : VL ρ cs us) : ∀ v ∈ us, v.oneCell' = true := fun v hv => by
  obtain ⟨i, hi⟩ := List.mem_iff_getElem?.1 hv
  obtain ⟨x, _, hx⟩ := h.get' hi
  exact hx.oneCell

/-- the store of a value -/
theorem store_sound {h h' : H} {w : World} (hr : R ρ h w) {b o : Nat} {cs : List AV} (hs : h.store b o cs = some h') {l : Loc} (hb : ρ b = some l) {us : List Value} (hu : VL ρ cs us) :
    (storeCells ⟨l.blk, l.off + o, none⟩ us).run P w = .ok () (setCells w l.blk (l.off + o) us) ∧ Post ρ h w ρ h' (setCells w l.blk (l.off + o) us) := by
  unfold H.store at hs
  split at hs
  · rename_i es rs p nx hg
    obtain ⟨hw, hm⟩ := hr.rows hb hg
    have hm := hm rfl
    split at hs
    · rename_i rs' hrs
      cases hs
      obtain ⟨h1, y, h2, h3⟩ := (atN_eq _ _ _ _).1 hrs
      split at h2
      · cases h2
      · rename_i r z hdrop
        split at h2
        · rename_i r' hr'
          cases h2
          have hri : rs[o / es]? = some r := by
            have := congrArg (·[0]?) hdrop
            simpa using this
          have hlt : o / es < rs.length := (List.getElem?_eq_some_iff.1 hri).1
          have hrl := hw.width _ _ hri
          obtain ⟨g1, g2⟩ := atN_over hr'
          have hul := hu.length
          have hoff : o / es * es + o % es = o := by rw [Nat.mul_comm]; exact Nat.div_add_mod o es
          have hfit : o + us.length ≤ rs.length * es := by
            have : (o / es + 1) * es ≤ rs.length * es := Nat.mul_le_mul_right _ hlt
            rw [Nat.add_mul] at this; omega
          obtain ⟨hp, hf⟩ := hm.run hfit
          have hget : ∀ k, rs'[k]? = if k = o / es then some r' else rs[k]? := fun k => by
            rw [h3]
            have ht : (rs.take (o / es)).length = o / es := by simp; omega
            by_cases hk : k < o / es
            · rw [List.getElem?_append_left (by omega), List.getElem?_take, if_pos hk, if_neg (by omega)]
            · rw [List.getElem?_append_right (by omega), ht]
              by_cases hk' : k = o / es
              · subst hk'; simp
              · rw [if_neg hk']
                obtain ⟨m, rfl⟩ : ∃ m, k = o / es + (m + 1) := ⟨k - o / es - 1, by omega⟩
                rw [Nat.add_sub_cancel_left]
                have := congrArg (·[m + 1]?) hdrop
                simp only [List.getElem?_drop] at this
                simpa using this.symm
          have hlen : rs'.length = rs.length := by
            have e1 := congrArg List.length h3
            have e2 := congrArg List.length hdrop
            simp at e1 e2; omega
          have hwid : ∀ (i : Nat) (q : List AV), rs'[i]? = some q → q.length = es := fun i q hq => by
            rw [hget] at hq
            split at hq
            · cases hq; rw [atN_over_len hr', hrl]
            · exact hw.width i q hq
          have hrun := run_storeCells (P := P) l.blk us (l.off + o) 0 w (by simpa using hp) (by simpa using hf) hu.one
          refine ⟨by simpa using hrun, ?_⟩
          have hrest := setCells_rest l.blk us (l.off + o) w
          refine Post.write hr hb hg (fun c hc => setCells_heap l.blk us (l.off + o) w c hc) (setCells_size _ _ _ _) (hw.write hwid hu ?_ hp) (by rw [hlen]; exact hm.write hp) hrest.1 hrest.2.1 hrest.2.2.1
          intro i j q v hq hj
          have hjl : j < es := by rw [← hwid i q hq]; exact (List.getElem?_eq_some_iff.1 hj).1
          rw [hget] at hq
          split at hq
          · rename_i hi; subst hi
            cases hq
            rw [atN_over_get hr'] at hj
            split at hj
            · right; exact ⟨by omega, r, hri, hj⟩
            · split at hj
              · left; exact ⟨by omega, by omega, by rw [← hj]; congr 1; omega⟩
              · right; exact ⟨by omega, r, hri, hj⟩
          · rename_i hi
            right
            refine ⟨fun ⟨q1, q2⟩ => ?_, q, hq, hj⟩
            rcases Nat.lt_or_ge i (o / es) with hlt' | hge
            · have : (i + 1) * es ≤ o / es * es := Nat.mul_le_mul_right _ hlt'
              rw [Nat.add_mul] at this; omega
            · have : (o / es + 1) * es ≤ i * es := Nat.mul_le_mul_right _ (by omega)
              rw [Nat.add_mul] at this; omega
        · cases h2
    · cases hs
  · cases hs

theorem flatten_get' {α : Type} (size : Nat) : ∀ (rows : List (List α)), (∀ (i : Nat) (r : List α), rows[i]? = some r → r.length = size) →
    ∀ (i j : Nat) (r : List α) (x : α), rows[i]? = some r → r[j]? = some x → rows.flatten[i * size + j]? = some x
  | [], _, i, j, r, x, h, _ => by simp at h
  | q :: rows, hw, i, j, r, x, hi, hj => by
    have hq := hw 0 q rfl
    rw [List.flatten_cons]
    cases i with
    | zero =>
      simp at hi; subst hi
      have : j < q.length := (List.getElem?_eq_some_iff.1 hj).1
      rw [Nat.zero_mul, Nat.zero_add, List.getElem?_append_left this]; exact hj
    | succ i =>
      simp at hi
      rw [List.getElem?_append_right (by rw [Nat.add_mul, hq]; omega), hq, Nat.add_mul]
      have := flatten_get' size rows (fun k r hk => hw (k + 1) r (by simpa using hk)) i j r x hi hj
      rw [← this]; congr 1; omega

/-- rows written over those of a block -/
theorem writeRows_sound {h h' : H} {w : World} (hr : R ρ h w) {size b i : Nat} {new : List (List AV)} (hs : h.writeRows size b i new = some h') {l : Loc} (hb : ρ b = some l) (hwn : ∀ (k : Nat) (r : List AV), new[k]? = some r → r.length = size)
    {us : List Value} (hu : VL ρ new.flatten us) :
    (storeCells ⟨l.blk, l.off + i * size, none⟩ us).run P w = .ok () (setCells w l.blk (l.off + i * size) us) ∧ Post ρ h w ρ h' (setCells w l.blk (l.off + i * size) us) := by
  unfold H.writeRows at hs
  split at hs
  · rename_i es rs p nx hg
    split at hs
    · rename_i he
      have he' := Nat.eq_of_beq_eq_true he
      subst he'
      obtain ⟨hw, hm⟩ := hr.rows hb hg
      have hm := hm rfl
      split at hs
      · rename_i rs' hrs
        cases hs
        obtain ⟨g1, g2⟩ := atN_over hrs
        have hul := hu.length
        obtain ⟨f1, f2⟩ := flatten_get es new hwn
        have hfit : i * es + us.length ≤ rs.length * es := by
          rw [hul, f1, ← Nat.add_mul]; exact Nat.mul_le_mul_right _ g1
        obtain ⟨hp, hf⟩ := hm.run hfit
        have hwid : ∀ (k : Nat) (q : List AV), rs'[k]? = some q → q.length = es := fun k q hq => by
          rw [atN_over_get hrs] at hq
          split at hq
          · exact hw.width k q hq
          · split at hq
            · exact hwn _ q hq
            · exact hw.width k q hq
        have hrun := run_storeCells (P := P) l.blk us (l.off + i * es) 0 w (by simpa using hp) (by simpa using hf) hu.one
        refine ⟨by simpa using hrun, ?_⟩
        have hrest := setCells_rest l.blk us (l.off + i * es) w
        refine Post.write hr hb hg (fun c hc => setCells_heap l.blk us (l.off + i * es) w c hc) (setCells_size _ _ _ _) (hw.write hwid hu ?_ hp) (by rw [atN_over_len hrs]; exact hm.write hp) hrest.1 hrest.2.1 hrest.2.2.1
        intro k j q v hq hj
        have hjl : j < es := by rw [← hwid k q hq]; exact (List.getElem?_eq_some_iff.1 hj).1
        rw [atN_over_get hrs] at hq
        split at hq
        · rename_i hk
          right
          refine ⟨fun ⟨q1, _⟩ => ?_, q, hq, hj⟩
          have : (k + 1) * es ≤ i * es := Nat.mul_le_mul_right _ hk
          rw [Nat.add_mul] at this; omega
        · rename_i hk
          split at hq
          · rename_i hk'
            left
            have e1 : i * es ≤ k * es := Nat.mul_le_mul_right _ (by omega)
            have e2 : (k + 1) * es ≤ (i + new.length) * es := Nat.mul_le_mul_right _ (by omega)
            rw [Nat.add_mul, Nat.add_mul] at e2
            refine ⟨by omega, by rw [f1]; omega, ?_⟩
            have := flatten_get' es new hwn (k - i) j q v hq hj
            rw [← this]; congr 1
            rw [Nat.sub_mul]; omega
          · rename_i hk'
            right
            refine ⟨fun ⟨_, q2⟩ => ?_, q, hq, hj⟩
            have : (i + new.length) * es ≤ k * es := Nat.mul_le_mul_right _ (by omega)
            rw [Nat.add_mul] at this; rw [f1] at q2; omega
      · cases hs
    · cases hs
  · cases hs
end
end Go.Abs
