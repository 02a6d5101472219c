/-
  Every pure operation does in the model what it does here.
-/
import Derived.Test.YtdncenepmkbolaaAbsP
namespace Go.Abs
open Go

section
variable {P : Program} {E : Env} {ρ : Pl} {fr : T AV} {ev : Operand → Value}

/-! lists of operands -/
def VX (ρ : Pl) : List AV → List Value → Prop
  | [], l => l = []
  | a :: r, l => ∃ v l', VR ρ a v ∧ VX ρ r l' ∧ l = v :: l'
def PX (ρ : Pl) : List (Nat × AV) → List (Nat × Value) → Prop
  | [], l => l = []
  | (i, a) :: r, l => ∃ v l', VR ρ a v ∧ PX ρ r l' ∧ l = (i, v) :: l'

theorem opnds_cons (x : Operand) (r : List Operand) : opnds fr (x :: r) = match opnd fr x with
    | none => none
    | some v => match opnds fr r with
      | none => none
      | some vs => some (v :: vs) := rfl
theorem opnds_sound : ∀ {l : List Operand} {vs : List AV}, opnds fr l = some vs → (∀ x ∈ l, ∀ v, opnd fr x = some v → VR ρ v (ev x)) → VX ρ vs (l.map ev)
  | [], vs, h, _ => by cases h; rfl
  | x :: r, vs, h, k => by
    rw [opnds_cons] at h
    split at h
    · cases h
    · rename_i v hv
      split at h
      · cases h
      · rename_i us hu
        cases h
        exact ⟨_, _, k x (by simp) v hv, opnds_sound hu (fun y hy => k y (by simp [hy])), rfl⟩
theorem partsOf_cons (i : Nat) (x : Operand) (r : List (Nat × Operand)) : partsOf fr ((i, x) :: r) = match opnd fr x with
    | none => none
    | some v => match partsOf fr r with
      | none => none
      | some vs => some ((i, v) :: vs) := rfl
theorem partsOf_sound : ∀ {l : List (Nat × Operand)} {vs : List (Nat × AV)}, partsOf fr l = some vs → (∀ i x, (i, x) ∈ l → ∀ v, opnd fr x = some v → VR ρ v (ev x)) →
    PX ρ vs (l.map fun (i, x) => (i, ev x))
  | [], vs, h, _ => by cases h; rfl
  | (i, x) :: r, vs, h, k => by
    rw [partsOf_cons] at h
    split at h
    · cases h
    · rename_i v hv
      split at h
      · cases h
      · rename_i us hu
        cases h
        exact ⟨_, _, k i x (by simp) v hv, partsOf_sound hu (fun j y hy => k j y (by simp [hy])), rfl⟩
theorem VX.length : ∀ {a : List AV} {l : List Value}, VX ρ a l → l.length = a.length
  | [], _, h => by subst h; rfl
  | a :: r, l, h => by obtain ⟨v, l', _, h2, rfl⟩ := h; simp [VX.length h2]
theorem VX.append : ∀ {a b : List AV} {l m : List Value}, VX ρ a l → VX ρ b m → VX ρ (a ++ b) (l ++ m)
  | [], b, l, m, h, k => by subst h; exact k
  | a :: r, b, l, m, h, k => by
    obtain ⟨v, l', h1, h2, rfl⟩ := h
    exact ⟨v, l' ++ m, h1, VX.append h2 k, rfl⟩
theorem VX.of_VL : ∀ {a : List AV} {l : List Value}, VL ρ a l → VX ρ a l
  | [], _, h => h
  | a :: r, l, h => by obtain ⟨v, l', h1, h2, rfl⟩ := h; exact ⟨v, l', VR.of_V1 (V1.of_VS h1), VX.of_VL h2, rfl⟩

/-! fill -/
theorem foldSet (off : Nat) : ∀ (vc : List Value) (k : Nat) (cells : Array Value), off + k + vc.length ≤ cells.size →
    ((vc.zipIdx k).foldl (fun (cs : Array Value) (p : Value × Nat) => cs.setIfInBounds (off + p.2) p.1) cells).toList = cells.toList.take (off + k) ++ vc ++ cells.toList.drop (off + k + vc.length) := by
  intro vc
  induction vc with
  | nil => intro k cells h; simp
  | cons v r ih =>
    intro k cells h
    simp only [List.length_cons] at h
    simp only [List.zipIdx_cons, List.foldl_cons]
    rw [ih (k + 1) _ (by simp; omega)]
    have hk : off + k < cells.toList.length := by simp; omega
    simp only [Array.toList_setIfInBounds, List.length_cons]
    have e1 : (cells.toList.set (off + k) v).take (off + (k + 1)) = cells.toList.take (off + k) ++ [v] := by
      rw [show off + (k + 1) = (off + k) + 1 from by omega, List.take_set, List.take_succ_eq_append_getElem hk]
      rw [List.set_append_right _ _ (by simp; omega), List.length_take, Nat.min_eq_left (by omega)]
      simp
    have e2 : (cells.toList.set (off + k) v).drop (off + (k + 1) + r.length) = cells.toList.drop (off + k + (r.length + 1)) := by
      rw [List.drop_set, if_pos (by omega)]
      congr 1; omega
    rw [e1, e2]; simp

theorem fillP_cons (place : Nat → Option (Nat × Nat)) (p : Nat × AV) (ps : List (Nat × AV)) (cells : List AV) : fillP place (p :: ps) cells =
    match place p.1 with
    | none => none
    | some (off, size) => match p.2.cellsN size with
      | some cs => match atN (over cs) off cells with
        | some cells => fillP place ps cells
        | none => none
      | none => none := rfl

theorem fill_sound {place place' : Nat → Option (Nat × Nat)} (hp : ∀ i x, place i = some x → place' i = some x) : ∀ {ps : List (Nat × AV)} {parts : List (Nat × Value)} {cells cells' : List AV} {C : Array Value},
    PX ρ ps parts → fillP place ps cells = some cells' → VL ρ cells C.toList → ∃ C' : Array Value, Instr.fill place' C parts = some C' ∧ VL ρ cells' C'.toList
  | [], parts, cells, cells', C, h, k, hc => by
    simp only [PX] at h; subst h; cases k; exact ⟨C, rfl, hc⟩
  | (i, a) :: r, parts, cells, cells', C, h, k, hc => by
    obtain ⟨v, l', h1, h2, rfl⟩ := h
    rw [fillP_cons] at k
    split at k
    · cases k
    · rename_i off size hpl
      split at k
      · rename_i cs hcs
        split at k
        · rename_i cells2 h3
          obtain ⟨q1, q2, q3⟩ := cellsN_sound h1 hcs
          obtain ⟨g1, g2⟩ := atN_over h3
          have hl := hc.length
          have ql := q1.length
          have hfit : ¬ (v.cells.size ≠ size || off + v.cells.size > C.size) = true := by
            simp at hl ql ⊢
            refine ⟨q3, ?_⟩
            omega
          have hfold : (v.cells.zipIdx.foldl (fun cs (c, j) => cs.setIfInBounds (off + j) c) C).toList = C.toList.take off ++ v.cells.toList ++ C.toList.drop (off + v.cells.toList.length) := by
            have := foldSet off v.cells.toList 0 C (by simp at hl ql ⊢; omega)
            rw [← Array.foldl_toList, Array.toList_zipIdx]
            simpa using this
          obtain ⟨C', e1, e2⟩ := fill_sound hp (C := v.cells.zipIdx.foldl (fun cs (c, j) => cs.setIfInBounds (off + j) c) C) h2 k (by
            rw [hfold, g2]
            refine ((hc.take off).append q1).append ?_
            rw [show v.cells.toList.length = cs.length from ql]
            exact hc.drop _)
          refine ⟨C', ?_, e2⟩
          simp only [Instr.fill, hp _ _ hpl]
          rw [if_neg hfit]; exact e1
        · cases k
      · cases k

theorem places_some : ∀ {fs : List Field}, (fs.all fun f => (P.info? f.type).isSome) = true → ∃ places, fs.mapM (fun f => (P.info? f.type).map fun i => (f.offset, i.size)) = some places ∧
    ∀ (k : Nat) (f : Field) (i : TypeInfo), fs[k]? = some f → P.info? f.type = some i → places[k]? = some (f.offset, i.size)
  | [], _ => ⟨[], rfl, by intro k f i h; simp at h⟩
  | f :: fs, h => by
    simp only [List.all_cons, Bool.and_eq_true] at h
    obtain ⟨places, h1, h2⟩ := places_some h.2
    obtain ⟨i, hi⟩ := Option.isSome_iff_exists.1 h.1
    refine ⟨(f.offset, i.size) :: places, by simp [hi, h1], ?_⟩
    intro k g j hg hj
    cases k with
    | zero => simp at hg; subst hg; rw [hi] at hj; cases hj; rfl
    | succ k => simp at hg ⊢; exact h2 k g j hg hj

theorem TIok.info_size {t : TypeId} {ti : TI} {i : TypeInfo} {z : Value} {d : TypeDesc} (h : TIok P t ti i z d) : P.info? t = some i ∧ i.size = ti.size := ⟨h.info, h.size⟩

theorem build_struct (hE : EnvOk P E) {t : TypeId} {ti : TI} (hti : E.tt.get t = some ti) {fs : List (Nat × Nat)} (hk : ti.k = .struct fs) {ps : List (Nat × AV)} {parts : Array (Nat × Value)} (hps : PX ρ ps parts.toList)
    {cs : List AV} (h : fillP (placeS fs E.tt) ps ti.zero = some cs) : ∃ C : Array Value, VL ρ cs C.toList ∧ ∀ w, (Instr.build t parts).run P w = .ok (.agg C) w := by
  obtain ⟨i, z, d, hT⟩ := hE.tt _ _ hti
  have hk' := hT.k
  rw [hk] at hk'
  obtain ⟨fields, rfl, rfl⟩ := tkOf_struct hk'
  obtain ⟨places, hp1, hp2⟩ := places_some hT.fields
  obtain ⟨C', e1, e2⟩ := fill_sound (ρ := ρ) (place' := (places.toArray[·]?)) (fun k x hx => by
    unfold placeS at hx
    split at hx
    · rename_i t' off hn
      split at hx
      · rename_i tf htf
        cases hx
        rw [nth_eq] at hn
        simp only [List.getElem?_map] at hn
        cases hf : fields.toList[k]? with
        | none => rw [hf] at hn; cases hn
        | some f =>
          rw [hf] at hn
          cases hn
          obtain ⟨i', z', d', hT'⟩ := hE.tt _ _ htf
          have := hp2 k f i' hf hT'.info
          rw [hT'.size] at this
          simpa using this
      · cases hx
    · cases hx) hps h (hT.zcells ρ)
  refine ⟨C', e2, fun w => run_build w t parts C' ?_⟩
  unfold Program.built
  simp only [hT.info, hT.und, hT.zero, hp1]
  exact e1

theorem build_arr (hE : EnvOk P E) {t : TypeId} {ti : TI} (hti : E.tt.get t = some ti) {n e : Nat} (hk : ti.k = .arr n e) {te : TI} (hte : E.tt.get e = some te) {ps : List (Nat × AV)} {parts : Array (Nat × Value)} (hps : PX ρ ps parts.toList)
    {cs : List AV} (h : fillP (fun i => some (i * te.size, te.size)) ps ti.zero = some cs) : ∃ C : Array Value, VL ρ cs C.toList ∧ ∀ w, (Instr.build t parts).run P w = .ok (.agg C) w := by
  obtain ⟨i, z, d, hT⟩ := hE.tt _ _ hti
  obtain ⟨i', z', d', hT'⟩ := hE.tt _ _ hte
  have hk' := hT.k
  rw [hk] at hk'
  have hd := tkOf_arr hk'
  subst hd
  obtain ⟨C', e1, e2⟩ := fill_sound (ρ := ρ) (fun k x hx => hx) hps h (hT.zcells ρ)
  refine ⟨C', e2, fun w => run_build w t parts C' ?_⟩
  unfold Program.built
  simp only [hT.info, hT.und, hT.zero, hT'.info, hT'.size]
  exact e1

/-! slices -/
def OI : Option Int → Option Value → Prop
  | none, v => v = none
  | some n, v => ∃ k, v = some (.int k n)
theorem optOp_sound {x : Option Operand} {r : Option Int} (h : optOp fr x = some r) (hx : ∀ y, x = some y → ∀ v, opnd fr y = some v → VR ρ v (ev y)) : OI r (x.map ev) := by
  cases x with
  | none => cases h; rfl
  | some y =>
    simp only [optOp] at h
    split at h
    · rename_i k n hn
      cases h
      exact ⟨_, by rw [Option.map_some, VR.int (hx y rfl _ hn)]⟩
    · cases h
theorem natOf_eq {n : Int} {m : Nat} (h : natOf n = some m) : n = m := by
  cases n <;> simp [natOf] at h; subst h; rfl
theorem run_sliceBound (k : IntKind) (i y : Nat) (code : BoundsCode) (w : World) (h : i ≤ y) : (Instr.sliceBound (.int k i) y code).run P w = .ok i w := by
  simp [Instr.sliceBound, asIntOf, h]

theorem bounds_sound {len cap C : Nat} {lo hi mx : Option Int} {l h m : Nat} (hb : bounds len cap lo hi mx = some (l, h, m)) (hc : cap ≤ C) {lo' hi' mx' : Option Value} (h1 : OI lo lo') (h2 : OI hi hi') (h3 : OI mx mx')
    (hm : mx ≠ none → hi ≠ none) (s : Bool) : l ≤ h ∧ h ≤ m ∧ m ≤ cap ∧ (mx = none → m = cap) ∧ ∀ w, (Instr.sliceBounds s len C lo' hi' mx').run P w = .ok (l, h, if mx.isNone then C else m) w := by
  unfold bounds at hb
  split at hb
  · cases hb
  · rename_i m0 hm0
    split at hb
    · cases hb
    · rename_i hmc
      split at hb
      · cases hb
      · rename_i h0 hh0
        split at hb
        · cases hb
        · rename_i hhm
          split at hb
          · cases hb
          · rename_i l0 hl0
            split at hb
            · cases hb
            · rename_i hlh
              simp only [Option.some.injEq, Prod.mk.injEq] at hb
              obtain ⟨rfl, rfl, rfl⟩ := hb
              have k1 : m0 ≤ cap := by simpa using hmc
              have k2 : h0 ≤ m0 := by simpa using hhm
              have k3 : l0 ≤ h0 := by simpa using hlh
              have k4 : h0 ≤ C := by omega
              have k5 : m0 ≤ C := by omega
              refine ⟨k3, k2, k1, fun e => by subst e; cases hm0; rfl, fun w => ?_⟩
              have hlo : (lo' = none ∧ l0 = 0) ∨ ∃ k, lo' = some (.int k l0) := by
                cases lo with
                | none => simp only [OI] at h1; subst h1; cases hl0; exact .inl ⟨rfl, rfl⟩
                | some n =>
                  obtain ⟨k, rfl⟩ := h1
                  have := natOf_eq hl0; subst this
                  exact .inr ⟨k, rfl⟩
              have hsb := fun (k : IntKind) (f : BoundsCode) (w : World) => run_sliceBound (P := P) k l0 h0 f w k3
              clear hl0 h1
              unfold Instr.sliceBounds
              cases mx with
              | none =>
                simp only [OI] at h3; subst h3
                cases hi with
                | none =>
                  simp only [OI] at h2; subst h2
                  cases hh0
                  rcases hlo with ⟨rfl, rfl⟩ | ⟨k0, rfl⟩ <;>
                  simp [hsb]
                | some n =>
                  obtain ⟨k, rfl⟩ := h2
                  have := natOf_eq hh0; subst this
                  have q := fun (f : BoundsCode) (w : World) => run_sliceBound (P := P) k h0 C f w k4
                  rcases hlo with ⟨rfl, rfl⟩ | ⟨k0, rfl⟩ <;>
                  simp [q, hsb]
              | some n =>
                obtain ⟨k, rfl⟩ := h3
                have := natOf_eq hm0; subst this
                cases hi with
                | none => exact absurd rfl (hm (by simp))
                | some n' =>
                  obtain ⟨k', rfl⟩ := h2
                  have := natOf_eq hh0; subst this
                  have q := fun (f : BoundsCode) (w : World) => run_sliceBound (P := P) k m0 C f w k5
                  have q' := fun (f : BoundsCode) (w : World) => run_sliceBound (P := P) k' h0 m0 f w k2
                  rcases hlo with ⟨rfl, rfl⟩ | ⟨k0, rfl⟩ <;>
                  simp [q, q', hsb]
end
end Go.Abs
