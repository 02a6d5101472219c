/-
  'ReadsNone': whatever the arguments, the law hands back true; the arguments read as before. No condition.
-/
import Derived.Test.YtkaeohehdcnldaaEnv
import Derived.Test.YtkaeohehdcnldaaRows
namespace Go.Proofs.Ytkaeohehdcnldaa
open Go Go.Abs Go.ChangeShapes Go.WideShapes Go.ChangeAt Go.RowKit

noncomputable def tops6 : List Top := (topsOf Try.prog Try.f6.params.toList).getD []
theorem tops6_eq : topsOf Try.prog Try.f6.params.toList = some tops6 := by kernel_rfl
theorem runs6 : trueInB env 1000 6 (shOf Try.prog Try.f6.params.toList) (.cut 9 200 (.cut 10 200 (.cut 31 200 (.cut 25 0 .run .run) .run) .run) .run) tops6 = true := by kernel_rfl

set_option maxRecDepth 100000 in
theorem lifted6 (os : Os) (started : os.Started) (H : Type) (enc : TypeId × Value → H) :
    ReturnsInHanded {} Try.checked os 6 .any (Rows.readsNoneSpec.pre6 enc Try.prog Try.f6 Rows.readsNoneRow.domain false) (Rows.readsNoneSpec.post enc Try.prog Try.f6 false true false false) :=
  law_lifted (C := Try.checked) own started (by kernel_rfl) Try.func6
    (ChangeSpec.witness6 (enc := enc) (C := Try.checked) false ⟨#[], zerosOf Try.prog Try.f6.params, []⟩ 8 (by kernel_rfl) (by kernel_rfl) (by kernel_rfl) (by kernel_rfl))
    ⟨rfl, lawFn1 fun _ _ => rfl⟩ (by kernel_rfl)
    fun W base args ds ps hok hA => law_runs envOk tops6_eq (trueIn_of_B _ _ runs6) W base args ds ps hok hA

theorem readsNone_holds : Rows.ReadsNoneSaid :=
  OpenClaim.holds_of_wide 6 Try.f6 rfl rfl rfl rfl rfl rfl rfl ⟨rfl, rfl, rfl, rfl, rfl⟩ rfl rfl rfl rfl rfl (by kernel_rfl) Try.func6 (by kernel_rfl)
    (of_decide_eq_true (by kernel_rfl)) (by unfold Func.isWrapper; first | (rw [if_pos (by decide +kernel)]; kernel_rfl) | (rw [if_neg (by decide +kernel)]; exact ⟨rfl, rfl⟩))
    (fun os started H enc _ => lifted6 os started H enc)

end Go.Proofs.Ytkaeohehdcnldaa
