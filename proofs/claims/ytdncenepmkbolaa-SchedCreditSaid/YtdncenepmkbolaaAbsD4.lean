/-
  A region that draws its order (4): one operation, at any place.
-/
import Derived.Test.YtdncenepmkbolaaAbsD3
namespace Go.Abs
open Go

section
variable {P : Program} {E : Env} {call : CallF} {ops : Array Oper} {F : Nat → T AV} {HP : Nat → H} {V : Nat → AV} {h0 : H} {ρ0 : Pl} {w0 : World} {N : Nat} {ds : List Deferred}

theorem next_eff (ops : Array Oper) : ∀ (m i : Nat), i + m = ops.size → ∃ d, i + d ≤ ops.size ∧ (∀ j o, i ≤ j → j < i + d → ops[j]? = some o → isEff o = false) ∧ (i + d = ops.size ∨ ∃ o, ops[i + d]? = some o ∧ isEff o = true)
  | 0, i, h => ⟨0, by omega, fun j o h1 h2 => by omega, .inl (by omega)⟩
  | m + 1, i, h => by
    have hlt : i < ops.size := by omega
    have ho : ops[i]? = some ops[i] := by simp [hlt]
    cases he : isEff ops[i] with
    | true => exact ⟨0, by omega, fun j o h1 h2 => by omega, .inr ⟨_, ho, he⟩⟩
    | false =>
      obtain ⟨d, h1, h2, h3⟩ := next_eff ops m (i + 1) (by omega)
      refine ⟨d + 1, by omega, fun j o q1 q2 q3 => ?_, by rw [show i + (d + 1) = i + 1 + d from by omega]; exact h3⟩
      rcases Nat.eq_or_lt_of_le q1 with e | e
      · subst e; rw [ho] at q3; cases q3; exact he
      · exact h2 j o (by omega) (by omega) q3

theorem effsTo_mono (ops : List Oper) (i : Nat) : ∀ d, effsTo ops i ≤ effsTo ops (i + d)
  | 0 => Nat.le_refl _
  | d + 1 => by
    rw [show i + (d + 1) = i + d + 1 from by omega, effsTo_succ]
    exact Nat.le_trans (effsTo_mono ops i d) (Nat.le_add_right _ _)
theorem effsTo_lt {ops : List Oper} {i j k : Nat} {o : Oper} (h1 : i ≤ j) (h2 : j < k) (ho : ops[j]? = some o) (he : isEff o = true) : effsTo ops i < effsTo ops k := by
  obtain ⟨d, rfl⟩ : ∃ d, j = i + d := ⟨j - i, by omega⟩
  obtain ⟨d', rfl⟩ : ∃ d', k = i + d + 1 + d' := ⟨k - (i + d + 1), by omega⟩
  have a := effsTo_mono ops i d
  have b := effsTo_mono ops (i + d + 1) d'
  have c := effsTo_succ ops (i + d)
  rw [ho] at c
  simp only [Option.any_some, he, if_true] at c
  omega

section step
variable {listed : Array Bool} {pk : Nat} {ρ : Pl} {a : Act} {w : World} {i : Nat} {o : Oper}

/-- the slots at which a ready operation looks -/
theorem Inv.look (inv : Inv E ops F HP V h0 ρ0 w0 N ds listed pk ρ a w) (hst : ∀ j o, ops[j]? = some o → StepOk E call ops.toList h0.n F HP V j j o) (hreg : ∀ j o, ops[j]? = some o → RegOk ops.toList j o)
    (ho : ops[i]? = some o) (hready : ∀ e ∈ o.after.toList, Region.binds .any e = true → listed.getD e.on false = true) {t : Tmp} (ht : t ∈ looks ops.toList o) :
    (F i).get t = (F ops.size).get t ∧ ∀ v, (F ops.size).get t = some v → ∃ u, a.tmps[t]? = some u ∧ VR ρ v u := by
  have hlt : i < ops.size := (Array.getElem?_eq_some_iff.1 ho).1
  have hbits := bef_listed (ops := ops.toList) (L := fun j => listed.getD j false = true) (fun j hj o' ho' e he hb => inv.dc j hj o' (by simpa using ho') e he hb) i o (by simpa using ho) hready
  have hlk := (hreg i o ho).looks t ht
  refine ⟨?_, fun v hv => inv.frame t v hv fun j o' ho' hd => hbits j (hlk j o' (by simpa using ho') hd).2⟩
  by_cases hex : ∃ (j : Nat) (o' : Oper), ops[j]? = some o' ∧ o'.dst = some t
  · obtain ⟨j, o', ho', hd⟩ := hex
    have hji := (hlk j o' (by simpa using ho') hd).1
    rw [frame_dst hst hreg ho' hd i hji (by omega), frame_dst hst hreg ho' hd ops.size (by omega) (Nat.le_refl _)]
  · have := frame_at hst hreg (t := t) (i := i) (ops.size - i) (by omega) fun j o' _ _ h3 hd => hex ⟨j, o', h3, hd⟩
    rw [show i + (ops.size - i) = ops.size from by omega] at this
    exact this.symm

theorem mem_looks {ops : List Oper} {o : Oper} {t : Tmp} (h : Operand.tmp t ∈ o.op.operands) : t ∈ looks ops o := by
  unfold looks
  rw [List.mem_append]
  left
  rw [List.mem_filterMap]
  exact ⟨.tmp t, by simpa using h, rfl⟩

theorem Inv.knows (inv : Inv E ops F HP V h0 ρ0 w0 N ds listed pk ρ a w) (hst : ∀ j o, ops[j]? = some o → StepOk E call ops.toList h0.n F HP V j j o) (hreg : ∀ j o, ops[j]? = some o → RegOk ops.toList j o)
    (ho : ops[i]? = some o) (hready : ∀ e ∈ o.after.toList, Region.binds .any e = true → listed.getD e.on false = true) :
    Knows ρ (F i) a.eval o.op.operands ∧ Knows ρ (F ops.size) a.eval o.op.operands := by
  have key : ∀ x ∈ o.op.operands, ∀ v, opnd (F ops.size) x = some v → VR ρ v (a.eval x) := fun x hx v hv => by
    cases x with
    | tmp t =>
      obtain ⟨_, h2⟩ := inv.look hst hreg ho hready (mem_looks (ops := ops.toList) hx)
      obtain ⟨u, h3, h4⟩ := h2 v hv
      have : a.eval (.tmp t) = u := by simp [Act.eval, h3]
      rw [this]; exact h4
    | const c => exact absV_VR ρ hv
    | global g => cases hv
    | func f => cases hv; exact ⟨[], rfl, rfl⟩
  refine ⟨fun x hx v hv => key x hx v ?_, key⟩
  cases x with
  | tmp t =>
    obtain ⟨h1, _⟩ := inv.look hst hreg ho hready (mem_looks (ops := ops.toList) hx)
    have hv' : (F i).get t = some v := hv
    rw [h1] at hv'; exact hv'
  | const c => exact hv
  | global g => exact hv
  | func f => exact hv

theorem Inv.wanted (inv : Inv E ops F HP V h0 ρ0 w0 N ds listed pk ρ a w) (hst : ∀ j o, ops[j]? = some o → StepOk E call ops.toList h0.n F HP V j j o) (hreg : ∀ j o, ops[j]? = some o → RegOk ops.toList j o)
    (ho : ops[i]? = some o) (hready : ∀ e ∈ o.after.toList, Region.binds .any e = true → listed.getD e.on false = true) {b : Bool} (hw : wantedA ops.toList (F i) o = some b) :
    Region.wanted o (yielded ops a.tmps) = b ∧ wantedA ops.toList (F ops.size) o = some b := by
  have hmem : ∀ j want g d, o.guard = some (j, want) → ops[j]? = some g → g.dst = some d → d ∈ looks ops.toList o := fun j want g d h1 h2 h3 => by
    unfold looks
    rw [List.mem_append]
    right
    rw [h1]
    simp [h2, h3]
  refine ⟨wanted_sound (ρ := ρ) hw fun j want h1 g d x h2 h3 h4 => ?_, ?_⟩
  · obtain ⟨h5, h6⟩ := inv.look hst hreg ho hready (hmem j want g d h1 h2 h3)
    rw [h5] at h4
    exact h6 _ h4
  · unfold wantedA at hw ⊢
    cases hg : o.guard with
    | none => rw [hg] at hw; exact hw
    | some jw =>
      obtain ⟨j, want⟩ := jw
      rw [hg] at hw
      simp only [nth_eq] at hw ⊢
      cases hj : ops.toList[j]? with
      | none => rw [hj] at hw; cases hw
      | some g =>
        rw [hj] at hw
        simp only at hw ⊢
        cases hd : g.dst with
        | none => rw [hd] at hw; cases hw
        | some d =>
          rw [hd] at hw
          simp only at hw ⊢
          obtain ⟨h5, _⟩ := inv.look hst hreg ho hready (hmem j want g d hg (by simpa using hj) hd)
          rw [← h5]; exact hw

/-- a read tells the same wherever it stands -/
theorem Inv.read (inv : Inv E ops F HP V h0 ρ0 w0 N ds listed pk ρ a w) (hst : ∀ j o, ops[j]? = some o → StepOk E call ops.toList h0.n F HP V j j o) (hreg : ∀ j o, ops[j]? = some o → RegOk ops.toList j o)
    {hs : List H} (hhs : ∀ k, (k = ops.size ∨ ∃ o, ops[k]? = some o ∧ isEff o = true) → hs[effsTo ops.toList k]? = some (HP k)) (hre : recheck E ops.toList (F ops.size) hs (floats ops.toList (befs ops.toList [])) = true)
    (ho : ops[i]? = some o) (hnl : listed.getD i false = false) (hready : ∀ e ∈ o.after.toList, Region.binds .any e = true → listed.getD e.on false = true) (hc : cls o.op = .read)
    (hw : wantedA ops.toList (F i) o = some true) (hv : readA E (F i) (HP i) o.op = some (V i)) : readA E (F i) (HP pk) o.op = some (V i) ∨ readA E (F ops.size) (HP pk) o.op = some (V i) := by
  have hlt : i < ops.size := (Array.getElem?_eq_some_iff.1 ho).1
  by_cases hk : effsTo ops.toList pk = effsTo ops.toList i
  · left
    have hle : i ≤ pk := by
      rcases Nat.lt_or_ge pk i with h | h
      · rcases inv.pk2 with e | ⟨o', ho', he'⟩
        · omega
        · have := effsTo_lt (ops := ops.toList) (Nat.le_refl pk) h (by simpa using ho') he'
          omega
      · exact h
    obtain ⟨s, h1, h2, h3⟩ := inv.seg
    have hsi : s ≤ i := by
      rcases Nat.lt_or_ge i s with h | h
      · rcases h2 with e | ⟨o', ho', he'⟩
        · omega
        · have := effsTo_lt (ops := ops.toList) (i := i) (j := s - 1) (k := pk) (by omega) (by omega) (by simpa using ho') he'
          omega
      · exact h
    exact read_mono (h3 i hsi hle) hv
  · right
    have hbits := bef_listed (ops := ops.toList) (L := fun j => listed.getD j false = true) (fun j hj o' ho' e he hb => inv.dc j hj o' (by simpa using ho') e he hb) i o (by simpa using ho) hready
    have hcount : effsTo ops.toList pk = ((List.range ops.size).filter fun j => (ops.toList[j]?).any isEff && decide (j < pk)).length := by
      rw [effsTo_count, count_range, Nat.min_eq_right inv.pkle]
    have hmem := floats_mem (bs := befs ops.toList []) (k := effsTo ops.toList pk) (show ops.toList[i]? = some o by simpa using ho) (by simp [isRead, hc])
      (by
        rw [hcount, Array.length_toList]
        refine filter_le _ _ (fun j hj => ?_) _
        simp only [Bool.and_eq_true, decide_eq_true_eq] at hj ⊢
        refine ⟨hj.1, ?_⟩
        cases hoj : ops.toList[j]? with
        | none => rw [hoj] at hj; simp at hj
        | some oj =>
          rw [hoj] at hj
          exact (inv.pk1 j oj (by simpa using hoj) (by simpa using hj.1)).2 (hbits j hj.2))
      (by
        rw [hcount, Array.length_toList]
        refine filter_le _ _ (fun j hj => ?_) _
        simp only [Bool.and_eq_true, decide_eq_true_eq, Bool.not_eq_true'] at hj ⊢
        refine ⟨hj.1, ?_⟩
        cases hoj : ops.toList[j]? with
        | none => rw [hoj] at hj; simp at hj
        | some oj =>
          rw [hoj] at hj
          have hLj := (inv.pk1 j oj (by simpa using hoj) (by simpa using hj.1)).1 hj.2
          cases hb : Nat.testBit ((befs ops.toList []).getD j 0) i with
          | false => rfl
          | true =>
            exfalso
            have := bef_listed (ops := ops.toList) (L := fun j => listed.getD j false = true) (fun j hj o' ho' e he hb => inv.dc j hj o' (by simpa using ho') e he hb) j oj hoj
              (fun e he hb' => inv.dc j hLj oj (by simpa using hoj) e he hb') i hb
            rw [hnl] at this; cases this)
      hk
    obtain ⟨v, d, h1, h2, h3⟩ := recheck_spec hre _ hmem (HP pk) o (hhs pk inv.pk2) (by simpa using ho) (inv.wanted hst hreg ho hready hw).2
    have := frame_dst hst hreg ho h2 ops.size hlt (Nat.le_refl _)
    rw [h3] at this
    cases this
    exact h1
end step
end
end Go.Abs
