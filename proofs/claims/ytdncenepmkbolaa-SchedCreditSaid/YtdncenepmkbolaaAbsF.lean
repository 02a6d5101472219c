/-
  Frames, and regions in the text's order.
-/
import Derived.Test.YtdncenepmkbolaaAbsE
namespace Go.Abs
open Go

section
variable {P : Program} {E : Env} {ρ : Pl} {fr : T AV}

/-- the slots that are told of hold what is told -/
def FR (ρ : Pl) (fr : T AV) (ts : Array Value) : Prop := ∀ t v, fr.get t = some v → ∃ u, ts[t]? = some u ∧ VR ρ v u

theorem FR.mono {ρ' : Pl} (he : Ext ρ ρ') {ts : Array Value} (h : FR ρ fr ts) : FR ρ' fr ts := fun t v ht => by
  obtain ⟨u, h1, h2⟩ := h t v ht
  exact ⟨u, h1, h2.mono he⟩

theorem FR.opnd {a : Act} (h : FR ρ fr a.tmps) {x : Operand} {v : AV} (hx : opnd fr x = some v) : VR ρ v (a.eval x) := by
  cases x with
  | tmp t =>
    obtain ⟨u, h1, h2⟩ := h t v hx
    have : a.eval (.tmp t) = u := by simp [Act.eval, h1]
    rw [this]; exact h2
  | const c => exact absV_VR ρ hx
  | global g => cases hx
  | func f => cases hx; exact ⟨[], rfl, rfl⟩

theorem FR.knows {a : Act} (h : FR ρ fr a.tmps) (xs : Array Operand) : Knows ρ fr a.eval xs := fun _ _ _ hv => h.opnd hv

theorem FR.put {a : Act} (h : FR ρ fr a.tmps) {d : Option Tmp} (hd : ∀ t, d = some t → t < a.tmps.size) {v : AV} {u : Value} (hv : VR ρ v u) : FR ρ (putD fr d v) (a.put d u).tmps := by
  cases d with
  | none => exact h
  | some d =>
    intro t x ht
    simp only [putD, T.get_put] at ht
    simp only [Act.put]
    split at ht
    · rename_i e; subst e
      cases ht
      exact ⟨u, by simp [hd t rfl], hv⟩
    · rename_i e
      obtain ⟨y, h1, h2⟩ := h t x ht
      exact ⟨y, by rw [Array.getElem?_setIfInBounds_ne (fun e' => e e'.symm)]; exact h1, h2⟩

theorem put_size (a : Act) (d : Option Tmp) (u : Value) : (a.put d u).tmps.size = a.tmps.size := by
  cases d <;> simp [Act.put]
theorem put_defers' (a : Act) (d : Option Tmp) (u : Value) : (a.put d u).defers = a.defers := by
  cases d <;> rfl

theorem wanted_sound {ops : Array Oper} {o : Oper} {b : Bool} (h : wantedA ops.toList fr o = some b) {ts : Array Value} (hf : ∀ j want, o.guard = some (j, want) → ∀ g d x, ops[j]? = some g → g.dst = some d → fr.get d = some x → ∃ u, ts[d]? = some u ∧ VR ρ x u) :
    Region.wanted o (yielded ops ts) = b := by
  unfold wantedA at h
  unfold Region.wanted
  split at h
  · rename_i hg; cases h; simp [hg]
  · rename_i j want hg
    rw [nth_eq] at h
    split at h
    · rename_i g hj
      have hj' : ops[j]? = some g := by simpa using hj
      split at h
      · rename_i d hd
        split at h
        · rename_i x hx
          cases h
          obtain ⟨u, h1, h2⟩ := hf j want hg g d _ hj' hd hx
          have := VR.bool h2
          subst this
          simp [hg, yielded, hj', hd, h1]
        · rename_i hx
          cases h
          obtain ⟨u, h1, us, h2, h3⟩ := hf j want hg g d _ hj' hd hx
          have : us = [] := h2
          subst this h3
          simp [hg, yielded, hj', hd, h1]
        · cases h
      · cases h
    · cases h

theorem FR.bool {ts : Array Value} (h : FR ρ fr ts) {d : Tmp} {x : Bool} (hx : fr.get d = some (.bool x)) : ts[d]? = some (.bool x) := by
  obtain ⟨u, h1, h2⟩ := h d _ hx
  rw [VR.bool h2] at h1; exact h1

theorem opsOk_mem {n : Nat} : ∀ {l : List Oper}, opsOk n l = true → ∀ o ∈ l, ∀ t, o.dst = some t → t < n
  | [], _, o, ho, _, _ => by simp at ho
  | x :: r, h, o, ho, t, ht => by
    simp only [opsOk, Bool.and_eq_true] at h
    rcases List.mem_cons.1 ho with rfl | hm
    · have := h.1; rw [ht] at this; simpa [Nat.blt_eq] using this
    · exact opsOk_mem h.2 o hm t ht

theorem runOps_cons (call : CallF) (ops : List Oper) (o : Oper) (r : List Oper) (fr : T AV) (h : H) : runOps E call ops (o :: r) fr h = match wantedA ops fr o with
    | some true => match execA E call fr h o.op with
      | some (v, h) => runOps E call ops r (putD fr o.dst v) h
      | none => none
    | some false => runOps E call ops r (putD fr o.dst (.tup [])) h
    | none => none := rfl

theorem runOps_sound (hE : EnvOk P E) {call : CallF} (hcall : CallsOk P call) {ops : Array Oper} {N : Nat} {Q : Exit → Act → World → Prop} {fr' : T AV} {h' : H} (hok : opsOk N ops.toList = true) :
    ∀ (l : List Oper) (k : Nat), ops.toList.drop k = l → ∀ (fr : T AV) (h : H) (ρ : Pl) (a : Act) (w : World), runOps E call ops.toList l fr h = some (fr', h') → FR ρ fr a.tmps → R ρ h w → a.tmps.size = N →
      (∀ ρ' a' w', FR ρ' fr' a'.tmps → a'.tmps.size = N → a'.defers = a.defers → Post ρ h w ρ' h' w' → Q .normal a' w') → wpOps P ops Q (List.range' k l.length) a w := by
  intro l
  induction l with
  | nil =>
    intro k _ fr h ρ a w hrun hf hr hN hQ
    cases hrun
    exact hQ ρ a w hf hN rfl (Post.refl hr)
  | cons o r ih =>
    intro k hk fr h ρ a w hrun hf hr hN hQ
    have hko : ops[k]? = some o := by
      have := congrArg (·[0]?) hk
      simpa using this
    have hkr : ops.toList.drop (k + 1) = r := by
      rw [← List.drop_drop, hk]; rfl
    have hmem : o ∈ ops.toList := by
      rw [List.mem_iff_getElem?]; exact ⟨k, by simpa using hko⟩
    have hdst := opsOk_mem hok o hmem
    rw [runOps_cons] at hrun
    rw [List.length_cons, List.range'_succ]
    simp only [wpOps, hko]
    split at hrun
    · rename_i hw
      have hwt := wanted_sound (ρ := ρ) hw (ts := a.tmps) fun j want _ g d x _ _ hx => hf d x hx
      rw [hwt]
      simp only [if_true]
      left
      split at hrun
      · rename_i v h1 hex
        refine exec_sound hE hcall hr hex (hf.knows _) fun ρ' u w' hv hp => ?_
        refine ih (k + 1) hkr _ _ ρ' _ w' hrun ((hf.mono hp.ext).put (fun t ht => by rw [hN]; exact hdst t ht) hv) hp.rel (by rw [put_size, hN]) fun ρ2 a2 w2 q1 q2 q3 q4 => ?_
        exact hQ ρ2 a2 w2 q1 q2 (by rw [q3, put_defers']) (hp.trans q4)
      · cases hrun
    · rename_i hw
      have hwt := wanted_sound (ρ := ρ) hw (ts := a.tmps) fun j want _ g d x _ _ hx => hf d x hx
      rw [hwt]
      simp only [Bool.false_eq_true, if_false]
      refine ih (k + 1) hkr _ _ ρ _ w hrun (hf.put (fun t ht => by rw [hN]; exact hdst t ht) (v := .tup []) (u := undef) ⟨[], rfl, rfl⟩) hr (by rw [put_size, hN]) fun ρ2 a2 w2 q1 q2 q3 q4 => ?_
      exact hQ ρ2 a2 w2 q1 q2 (by rw [q3, put_defers']) q4
    · cases hrun
end
end Go.Abs
