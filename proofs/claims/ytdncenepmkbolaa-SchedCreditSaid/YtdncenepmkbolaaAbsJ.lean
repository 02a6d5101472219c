/-
  FROM THE ABSTRACT MACHINE TO A ROW: what a caller hands in as values from .. to; the row's last part.
-/
import Derived.Test.YtdncenepmkbolaaAbsM
import Derived.ProofKit
namespace Go.Abs
open Go Go.ChangeShapes Go.WideShapes Go.ChangeAt Go.RowKit

/-! values of a type, of which no more is known -/
def topsN (n : Nat) (q : List Top) : List Top :=
  match n with
  | 0 => []
  | n + 1 => q ++ topsN n q

def topOf (P : Program) : Nat → TypeId → Option (List Top)
  | 0, _ => none
  | d + 1, t => match P.underlying t with
    | some .bool => some [.bool]
    | some (.int k) => some [.int k k.min k.max]
    | some .string => some [.str 0 9223372036854775807]
    | some (.slice _) => some [.sl 0 9223372036854775807]
    | some (.struct fs) => match flds (topOf P d) P fs.toList 0 with
      | some q => match Nat.beq (P.cellsOf t) q.length with
        | true => some q
        | false => none
      | none => none
    | some (.array n e) => match topOf P d e with
      | some q => match Nat.beq (P.cellsOf e) q.length, Nat.beq (P.cellsOf t) (topsN n q).length with
        | true, true => some (topsN n q)
        | _, _ => none
      | none => none
    | _ => none
where
  flds (f : TypeId → Option (List Top)) (P : Program) : List Field → Nat → Option (List Top)
    | [], _ => some []
    | x :: r, o => match Nat.beq x.offset o, f x.type with
      | true, some q => match Nat.beq (P.cellsOf x.type) q.length with
        | true => match flds f P r (o + q.length) with
          | some l => some (q ++ l)
          | none => none
        | false => none
      | _, _ => none

section
variable {H : Type} {enc : TypeId × Value → H} {P : Program} {w : World} {base : Nat} {sp : Nat → Bool} {ρ : Pl}

theorem VL.top1 {q : Top} {v : Value} (h : q.has v) : VL ρ ([q].map AV.top) [v] := ⟨v, [], h, rfl, rfl⟩

theorem mapM_all {α β : Type} {f : α → Option β} : ∀ {l : List α} {r : List β}, l.mapM f = some r → ∀ x ∈ l, ∃ y, f x = some y
  | [], _, _, x, hx => by simp at hx
  | a :: l, r, h, x, hx => by
    simp only [List.mapM_cons, Option.pure_def, Option.bind_eq_bind, Option.bind_eq_some_iff, Option.some.injEq] at h
    obtain ⟨y, h1, ys, h2, _⟩ := h
    rcases List.mem_cons.1 hx with rfl | hx
    · exact ⟨y, h1⟩
    · exact mapM_all h2 x hx

theorem flds_tops {fuel d : Nat} {cs : List Value} (ih : ∀ (t : TypeId) (cs : List Value) (x : DataW H × List MemPlace) (q : List Top), DataW.trod enc P w base sp true fuel t cs = some x → topOf P d t = some q → VL ρ (q.map AV.top) cs) :
    ∀ (fs : List Field) (o : Nat) (q : List Top), topOf.flds (topOf P d) P fs o = some q →
      (∀ f ∈ fs, ∃ x, DataW.trod enc P w base sp true fuel f.type ((cs.drop f.offset).take (P.cellsOf f.type)) = some x) → o + q.length = cs.length → VL ρ (q.map AV.top) (cs.drop o)
  | [], o, q, h, _, hl => by
    simp only [topOf.flds, Option.some.injEq] at h; subst h
    have : cs.drop o = [] := List.drop_eq_nil_of_le (by simp at hl; omega)
    rw [this]; rfl
  | f :: fs, o, q, h, hf, hl => by
    simp only [topOf.flds] at h
    split at h
    · rename_i p ho hq
      split at h
      · rename_i hp
        split at h
        · rename_i r hr
          cases h
          have ho' : f.offset = o := Nat.eq_of_beq_eq_true ho
          have hp' := Nat.eq_of_beq_eq_true hp
          obtain ⟨x, hx⟩ := hf f (by simp)
          have h1 := ih _ _ _ _ hx hq
          rw [ho', hp'] at h1
          have h2 := flds_tops ih fs (o + p.length) r hr (fun g hg => hf g (by simp [hg])) (by simp at hl; omega)
          have e : cs.drop o = (cs.drop o).take p.length ++ cs.drop (o + p.length) := by
            rw [← List.drop_drop]; exact (List.take_append_drop _ _).symm
          rw [e, List.map_append]
          exact VL.append h1 h2
        · cases h
      · cases h
    · cases h

theorem elems_tops {cs : List Value} {q : List Top} : ∀ (n o : Nat), (∀ i, i < n → VL ρ (q.map AV.top) ((cs.drop (o + i * q.length)).take q.length)) → o + (topsN n q).length = cs.length → VL ρ ((topsN n q).map AV.top) (cs.drop o)
  | 0, o, _, hl => by
    have : cs.drop o = [] := List.drop_eq_nil_of_le (by simp [topsN] at hl; omega)
    rw [this]; rfl
  | n + 1, o, hf, hl => by
    have h1 := hf 0 (by omega)
    rw [Nat.zero_mul, Nat.add_zero] at h1
    have h2 := elems_tops (cs := cs) (q := q) n (o + q.length) (fun i hi => by
      have := hf (i + 1) (by omega)
      rw [show o + q.length + i * q.length = o + (i + 1) * q.length by rw [Nat.succ_mul]; omega]
      exact this) (by simp [topsN] at hl; omega)
    have e : cs.drop o = (cs.drop o).take q.length ++ cs.drop (o + q.length) := by
      rw [← List.drop_drop]; exact (List.take_append_drop _ _).symm
    rw [e, topsN, List.map_append]
    exact VL.append h1 h2

theorem trod_tops : ∀ (d fuel : Nat) (t : TypeId) (cs : List Value) (x : DataW H × List MemPlace) (q : List Top), DataW.trod enc P w base sp true fuel t cs = some x → topOf P d t = some q → VL ρ (q.map AV.top) cs
  | 0, _, _, _, _, _, _, h => by cases h
  | _ + 1, 0, _, _, _, _, h, _ => by cases h
  | d + 1, fuel + 1, t, cs, x, q, h, hq => by
    have ih := fun t cs x q h hq => trod_tops d fuel t cs x q h hq
    rw [DataW.trod_step] at h
    unfold DataW.trodStep at h
    unfold topOf at hq
    split at hq
    · rename_i hu
      cases hq
      simp only [hu] at h
      split at h <;> first | (cases h; done) | skip
      all_goals first | (simp_all; done) | skip
      exact VL.top1 ⟨_, rfl⟩
    · rename_i k hu
      cases hq
      simp only [hu] at h
      split at h <;> first | (cases h; done) | (simp_all; done) | skip
      rename_i k1 k' n hk
      cases hk
      split at h
      · rename_i hc
        obtain ⟨rfl, hw⟩ := hc
        simp only [Lit.wf, Bool.and_eq_true, decide_eq_true_eq] at hw
        exact VL.top1 ⟨_, rfl, hw.1, hw.2⟩
      · cases h
    · rename_i hu
      cases hq
      simp only [hu] at h
      split at h <;> first | (cases h; done) | (simp_all; done) | skip
      split at h
      · rename_i hc
        exact VL.top1 ⟨_, rfl, Nat.zero_le _, by simpa [maxLen] using hc⟩
      · cases h
    · rename_i e hu
      cases hq
      simp only [hu] at h
      split at h <;> first | (cases h; done) | (simp_all; done) | skip
      · exact VL.top1 (.inl ⟨rfl, rfl⟩)
      · rename_i e1 a len cap he
        split at h
        · rename_i hc
          exact VL.top1 (.inr ⟨_, _, _, rfl, Nat.zero_le _, by have := hc.2.2; simp [maxLen] at this; omega⟩)
        · cases h
    · rename_i fs hu
      split at hq
      · rename_i p hp
        split at hq
        · rename_i hl
          cases hq
          have hl' := Nat.eq_of_beq_eq_true hl
          simp only [hu] at h
          split at h
          · rename_i hc
            simp only [Option.map_eq_some_iff] at h
            obtain ⟨xs, hxs, _⟩ := h
            have := flds_tops (cs := cs) ih fs.toList 0 _ hp (mapM_all hxs) (by omega)
            simpa using this
          · cases h
        · cases hq
      · cases hq
    · rename_i n e hu
      split at hq
      · rename_i p hp
        split at hq
        · rename_i hl1 hl2
          cases hq
          have hl1' := Nat.eq_of_beq_eq_true hl1
          have hl2' := Nat.eq_of_beq_eq_true hl2
          simp only [hu] at h
          split at h
          · rename_i hc
            simp only [Option.map_eq_some_iff] at h
            obtain ⟨xs, hxs, _⟩ := h
            have hall := mapM_all hxs
            have := elems_tops (ρ := ρ) (cs := cs) (q := p) n 0 (fun i hi => by
              obtain ⟨y, hy⟩ := hall i (by simpa using hi)
              rw [hl1'] at hy
              have := ih _ _ _ _ hy hp
              simpa using this) (by omega)
            simpa using this
          · cases h
        · cases hq
      · cases hq
    · cases hq

end
end Go.Abs
