/-
  'AdmitSticks': what an offer changes; who was refused.
-/
import Derived.Test.YtdncenepmkbolaaAdmitL
import Derived.Test.YtdncenepmkbolaaSu
namespace Go.Proofs.Ytdncenepmkbolaa
open Go Go.Abs Go.Abs.S Go.Abs.W
set_option maxRecDepth 10000
set_option maxHeartbeats 8000000
structure OffOk (bs : List (Int × Int)) (ws : List Int) (c : Nat) (s t : Int) (p : Int × Int) (w : Int) (R : Int × List (Int × Int) × List Int) : Prop where
  bad : R.1 ≠ 10
  old : ¬ before p (s, t) → R.1 = 7
  ws' : R.1 ≠ 0 → R.2.2 = ws
  yes : R.1 = 0 → R.2.1 = bs ∧ R.2.2 = ws.set c s ∧ w = 0 ∧ before p (s, t)
  bar : R.1 ≠ 0 → R.1 ≠ 6 → ∀ r, R.2.1[c]? = some r → ¬ before r (s, t)
  keep : ∀ (c' : Nat) (x p' r : Int × Int), bs[c']? = some p' → ¬ before p' x → R.2.1[c']? = some r → ¬ before r x
theorem offR_ok {bs : List (Int × Int)} {ws : List Int} {c : Nat} {p : Int × Int} {w : Int} (full : Bool) (s t d now : Int) (hp : bs[c]? = some p) (hw : ws[c]? = some w) : OffOk bs ws c s t p w (offR bs ws full c s t d now) := by
  have kp : ∀ (c' : Nat) (x p' r : Int × Int), bs[c']? = some p' → ¬ before p' x → bs[c']? = some r → ¬ before r x := fun c' x p' r h1 h2 h3 => by rw [h1] at h3; cases h3; exact h2
  have kb : ∀ (c' : Nat) (x p' r : Int × Int), bs[c']? = some p' → ¬ before p' x → (barB bs c (s, t))[c']? = some r → ¬ before r x := fun c' x p' r h1 h2 h3 => barB_keep h1 h3 h2
  unfold offR
  rw [hp, hw]
  simp only
  by_cases h1 : before p (s, t)
  rotate_left
  · rw [if_pos h1]
    exact ⟨by simp, fun _ => rfl, fun _ => rfl, fun e => absurd e (by simp), fun _ _ r hr => by rw [hp] at hr; cases hr; exact h1, kp⟩
  rw [if_neg (fun e => e h1)]
  by_cases h2 : w = s
  · rw [if_pos h2]
    exact ⟨by simp, fun e => absurd h1 e, fun _ => rfl, fun e => absurd e (by simp), fun _ e => absurd rfl e, kp⟩
  rw [if_neg h2]
  by_cases h3 : w = 0
  rotate_left
  · rw [if_pos h3]
    exact ⟨by simp, fun e => absurd h1 e, fun _ => rfl, fun e => absurd e (by simp), fun _ _ r hr => barB_self hr, kb⟩
  rw [if_neg (fun e => e h3)]
  by_cases h4 : d < now
  · rw [if_pos h4]
    exact ⟨by simp, fun e => absurd h1 e, fun _ => rfl, fun e => absurd e (by simp), fun _ _ r hr => barB_self hr, kb⟩
  rw [if_neg h4]
  cases full with
  | true => exact ⟨by simp, fun e => absurd h1 e, fun _ => rfl, fun e => absurd e (by simp), fun _ _ r hr => barB_self hr, kb⟩
  | false => exact ⟨by simp, fun e => absurd h1 e, fun e => absurd rfl e, fun _ => ⟨rfl, rfl, h3, h1⟩, fun e => absurd rfl e, kp⟩
/-! flags -/
abbrev FgC (b : Nat) (fs : List Bool) : Ch := Cell b (.rows 1 (fs.map fun f => [AV.bool f]) false none none)
section
variable {h h0 : Go.Abs.H} {L : List Ch} {b i : Nat} {fs : List Bool} {f : Bool}
theorem fg_idx (hi : i < fs.length) : idxS 1 (.sl b 0 fs.length fs.length) (i : Int) = some (b, i * 1) := by
  rw [idx_sl (by omega) (by omega)]; simp
theorem fg_get (k : Hs h0 (FgC b fs :: L) h) (hf : fs[i]? = some f) : cellG (i * 1) (h.get b) = some (.bool f) := by
  rw [k.get, cellG_rows, Nat.mul_one, Nat.mod_one, Nat.div_one, nth_eq, List.getElem?_map, hf]; rfl
theorem fg_set (k : Hs h0 (FgC b fs :: L) h) (hi : i < fs.length) (x : Bool) : storeB h b (i * 1) [.bool x] (h.get b) = some (h.put b (.rows 1 ((fs.set i x).map fun f => [AV.bool f]) false none none)) ∧ Hs h0 (FgC b (fs.set i x) :: L) (h.put b (.rows 1 ((fs.set i x).map fun f => [AV.bool f]) false none none)) := by
  refine ⟨?_, k.put _⟩
  have := storeG_row (es := 1) (k := i) (rs := fs.map fun f => [AV.bool f]) (cs := [.bool x]) (by simpa using hi) (fun r hr => by rw [List.mem_map] at hr; obtain ⟨_, _, rfl⟩ := hr; rfl) rfl (by omega)
  rw [k.get, storeB_rows, this, List.map_set]
end
end Go.Proofs.Ytdncenepmkbolaa
