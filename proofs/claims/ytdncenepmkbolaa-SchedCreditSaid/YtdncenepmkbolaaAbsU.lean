/-
  Every pure operation does in the model what it does here (2).
-/
import Derived.Test.YtdncenepmkbolaaAbsQ
namespace Go.Abs
open Go

section
variable {P : Program} {E : Env} {ρ : Pl} {fr : T AV} {ev : Operand → Value}

theorem beq_no {m l : Nat} (h : m ≠ l) : Nat.beq m l = false := by
  cases hq : Nat.beq m l
  · rfl
  · exact absurd (Nat.eq_of_beq_eq_true hq) h
theorem beq_no' {m l : Nat} (h : Nat.beq m l = false) : m ≠ l := Nat.ne_of_beq_eq_false h

theorem add_off (a : Addr) (n : Nat) (h : a.spot = none) : a.add n = ⟨a.block, a.off + n, none⟩ := by
  cases a; simp only at h; subst h; exact add_plain _ _ _

theorem sliceOp_sound (hE : EnvOk P E) {t : TypeId} {x v : AV} {lo hi mx : Option Int} (h : sliceOp E.tt t x lo hi mx = some v) {p : Value} (hp : VR ρ x p) {lo' hi' mx' : Option Value}
    (h1 : OI lo lo') (h2 : OI hi hi') (h3 : OI mx mx') : ∃ u, VR ρ v u ∧ ∀ w, (Instr.sliceAt t p lo' hi' mx').run P w = .ok u w := by
  unfold sliceOp at h
  split at h
  · cases h
  · rename_i ti hti
    obtain ⟨i, z, d, hT⟩ := hE.tt _ _ hti
    have hk := hT.k
    have hd := hT.und
    generalize ti.k = K at h hk
    split at h
    · -- a string
      rw [tkOf_str hk] at hd
      rename_i s
      rw [VR.str hp]
      split at h
      · cases h
      · split at h
        · rename_i l hh m hb
          cases h
          obtain ⟨k1, k2, k3, k4, k5⟩ := bounds_sound (P := P) hb (Nat.le_refl _) h1 h2 h3 (fun e => absurd rfl e) false
          refine ⟨_, rfl, fun w => ?_⟩
          simp only [OI] at h3; subst h3
          have hsz : (⟨s.toArray⟩ : ByteArray).size = s.length := by simp [ByteArray.size]
          simp only [Instr.sliceAt, Instr.slice, run_underlying hd, Sem.run_bind, Result.andThen_ok, Option.isSome_none, Bool.false_eq_true, if_false, hsz, k5 w]
          simp only [Sem.run_pure, Result.ok.injEq, Value.string.injEq, and_true]
          apply ByteArray.ext
          apply Array.ext'
          simp [ByteArray.data_extract, List.take_drop]
        · cases h
    · -- nil
      rename_i e
      have he := tkOf_slice hk
      rw [he] at hd
      have hp' : p = .slice none 0 0 := hp
      subst hp'
      split at h
      · cases h
      · rename_i te hte
        obtain ⟨i', z', d', hT'⟩ := hE.tt _ _ hte
        split at h
        · cases h
        · rename_i hm
          split at h
          · rename_i x hb
            cases h
            obtain ⟨l, hh, m⟩ := x
            obtain ⟨k1, k2, k3, k4, k5⟩ := bounds_sound (P := P) hb (Nat.le_refl _) h1 h2 h3 (fun e1 e2 => by subst e2; cases mx with | none => exact e1 rfl | some q => exact hm q rfl rfl) true
            have : m = 0 := by omega
            subst this
            obtain rfl : hh = 0 := by omega
            obtain rfl : l = 0 := by omega
            refine ⟨_, rfl, fun w => ?_⟩
            simp only [Instr.sliceAt, Instr.slice, run_underlying hd, Sem.run_bind, Result.andThen_ok, k5 w, hT'.run_size w]
            simp
          · cases h
    · -- none, or nil
      rename_i e
      have he := tkOf_slice hk
      rw [he] at hd
      have hz : Top.has .emp p := hp
      split at h
      · cases h
      · rename_i te hte
        obtain ⟨i', z', d', hT'⟩ := hE.tt _ _ hte
        split at h
        · cases h
        · rename_i hm
          split at h
          · rename_i x hb
            cases h
            obtain ⟨l, hh, m⟩ := x
            obtain ⟨y, c, rfl⟩ := hz
            · obtain ⟨k1, k2, k3, k4, k5⟩ := bounds_sound (P := P) (C := c) hb (Nat.zero_le _) h1 h2 h3 (fun e1 e2 => by subst e2; cases mx with | none => exact e1 rfl | some q => exact hm q rfl rfl) true
              have : m = 0 := by omega
              subst this
              obtain rfl : hh = 0 := by omega
              obtain rfl : l = 0 := by omega
              generalize hcc : (if mx.isNone then c else 0) = cc at k5
              by_cases hcz : cc = 0
              · refine ⟨.slice (some y) 0 (cc - 0), ⟨_, _, rfl⟩, fun w => ?_⟩
                simp only [Instr.sliceAt, Instr.slice, run_underlying hd, Sem.run_bind, Result.andThen_ok, k5 w, hT'.run_size w, Sem.run_pure, Option.map_some, hcz, if_true]
              · refine ⟨.slice (some (y.add (0 * te.size))) 0 (cc - 0), ⟨_, _, rfl⟩, fun w => ?_⟩
                simp only [Instr.sliceAt, Instr.slice, run_underlying hd, Sem.run_bind, Result.andThen_ok, k5 w, hT'.run_size w, Sem.run_pure, Option.map_some, hcz, if_false]
          · cases h
    · -- known capacity
      rename_i e b o len c
      have he := tkOf_slice hk
      rw [he] at hd
      obtain ⟨l0, hl0, hp'⟩ := hp
      subst hp'
      split at h
      · cases h
      · rename_i te hte
        obtain ⟨i', z', d', hT'⟩ := hE.tt _ _ hte
        split at h
        · cases h
        · rename_i hm
          split at h
          · rename_i l hh m hb
            obtain ⟨k1, k2, k3, k4, k5⟩ := bounds_sound (P := P) hb (Nat.le_refl _) h1 h2 h3 (fun e1 e2 => by subst e2; cases mx with | none => exact e1 rfl | some q => exact hm q rfl rfl) true
            have hmm : (if mx.isNone then c else m) = m := by
              cases mx with
              | none => simp [k4 rfl]
              | some q => rfl
            rw [hmm] at k5
            cases h
            refine ⟨.slice (some ⟨l0.blk, l0.off + (match Nat.beq m l with | true => o | false => o + l * te.size), none⟩) (hh - l) (m - l), ⟨l0, hl0, rfl⟩, fun w => ?_⟩
            simp only [Instr.sliceAt, Instr.slice, run_underlying hd, Sem.run_bind, Result.andThen_ok, k5 w, hT'.run_size w, Sem.run_pure]
            by_cases hml : m = l
            · subst hml; simp
            · have : Nat.beq m l = false := beq_no hml
              rw [this]
              simp only [hml, if_false, Option.map_some, add_plain, Nat.add_assoc]
          · cases h
    · -- capacity not known
      rename_i e b i0 len es
      have he := tkOf_slice hk
      rw [he] at hd
      obtain ⟨l0, hl0, q1, q2, q3, hp'⟩ := hp
      split at h
      · cases h
      · rename_i te hte
        obtain ⟨i', z', d', hT'⟩ := hE.tt _ _ hte
        split at h
        · cases h
        · rename_i hes
          have hes' : te.size = es := by simpa using hes
          split at h
          · cases h
          · -- no third index
            simp only [OI] at h3; subst h3
            split at h
            · rename_i l hh m hb
              cases h
              obtain ⟨C, a0, hC, hlen, hpp, ha0, hcase⟩ : ∃ (C : Nat) (a0 : Nat), C = l0.room - i0 ∧ len ≤ C ∧ p = .slice (some ⟨l0.blk, a0, none⟩) len C ∧ True ∧ (a0 = l0.off + i0 * es ∨ (len = 0 ∧ C = 0)) := by
                rcases hp' with hp' | ⟨r1, r2, x, hp'⟩
                · exact ⟨_, _, rfl, by omega, hp', trivial, .inl rfl⟩
                · exact ⟨_, x, rfl, by omega, by rw [hp', r1]; congr 1; omega, trivial, .inr ⟨r1, by omega⟩⟩
              subst hpp
              obtain ⟨k1, k2, k3, k4, k5⟩ := bounds_sound (P := P) (C := C) hb hlen h1 h2 rfl (fun e1 _ => e1 rfl) true
              simp only [Option.isNone_none, if_true] at k5
              refine ⟨.slice (if C = l then some ⟨l0.blk, a0, none⟩ else some ⟨l0.blk, a0 + l * es, none⟩) (hh - l) (C - l), ⟨l0, hl0, q1, q2, by omega, ?_⟩, fun w => ?_⟩
              · by_cases hcl : C = l
                · right
                  refine ⟨by omega, by omega, a0, ?_⟩
                  rw [if_pos hcl, show hh - l = 0 from by omega, show C - l = 0 from by omega]
                · left
                  rw [if_neg hcl]
                  rcases hcase with hc | ⟨c1, c2⟩
                  · subst hc
                    rw [Nat.add_mul, Nat.add_assoc, hC, Nat.sub_sub]
                  · omega
              · simp only [Instr.sliceAt, Instr.slice, run_underlying hd, Sem.run_bind, Result.andThen_ok, k5 w, hT'.run_size w, Sem.run_pure, Option.map_some, add_plain, hes']
            · cases h
          · -- a third index
            rename_i mq hm
            split at h
            · rename_i l hh m hb
              split at h
              · cases h
              · rename_i hml
                cases h
                have hml' : m ≠ l := beq_no' hml
                obtain ⟨C, hlen, hpp⟩ : ∃ C : Nat, len ≤ C ∧ p = .slice (some ⟨l0.blk, l0.off + i0 * es, none⟩) len C := by
                  rcases hp' with hp' | ⟨r1, r2, x, hp'⟩
                  · exact ⟨_, by omega, hp'⟩
                  · exfalso
                    obtain ⟨k1, k2, k3, _, _⟩ := bounds_sound (P := P) (C := len) hb (Nat.le_refl _) h1 h2 h3 (fun _ e2 => by subst e2; exact hm rfl) true
                    omega
                subst hpp
                obtain ⟨k1, k2, k3, k4, k5⟩ := bounds_sound (P := P) (C := C) hb hlen h1 h2 h3 (fun _ e2 => by subst e2; exact hm rfl) true
                simp only [Option.isNone_some, Bool.false_eq_true, if_false] at k5
                refine ⟨.slice (some ⟨l0.blk, l0.off + (i0 + l) * es, none⟩) (hh - l) (m - l), ⟨l0, hl0, rfl⟩, fun w => ?_⟩
                simp only [Instr.sliceAt, Instr.slice, run_underlying hd, Sem.run_bind, Result.andThen_ok, k5 w, hT'.run_size w, Sem.run_pure, Option.map_some, add_plain, hes', hml', if_false]
                rw [Nat.add_mul, Nat.add_assoc]
            · cases h
    · cases h
end
end Go.Abs
