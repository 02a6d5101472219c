/-
  'WindowsNone': whatever the arguments, the law hands back true; the arguments read as before. No condition.
-/
import Derived.Test.YteahpopaiaokdaaEnv
import Derived.Test.YteahpopaiaokdaaRows
namespace Go.Proofs.Yteahpopaiaokdaa
open Go Go.Abs Go.ChangeShapes Go.WideShapes Go.ChangeAt Go.RowKit

noncomputable def tops8 : List Top := (topsOf Try.prog Try.f8.params.toList).getD []
theorem tops8_eq : topsOf Try.prog Try.f8.params.toList = some tops8 := by kernel_rfl
theorem runs8 : trueInB env 1000 8 (shOf Try.prog Try.f8.params.toList) .run tops8 = true := by kernel_rfl

set_option maxRecDepth 100000 in
theorem lifted8 (os : Os) (started : os.Started) (H : Type) (enc : TypeId × Value → H) :
    ReturnsInHanded {} Try.checked os 8 .any (Rows.windowsNoneSpec.pre6 enc Try.prog Try.f8 Rows.windowsNoneRow.domain false) (Rows.windowsNoneSpec.post enc Try.prog Try.f8 false true false false) :=
  law_lifted (C := Try.checked) own started (by kernel_rfl) Try.func8
    (ChangeSpec.witness6 (enc := enc) (C := Try.checked) false ⟨#[], zerosOf Try.prog Try.f8.params, []⟩ 8 (by kernel_rfl) (by kernel_rfl) (by kernel_rfl) (by kernel_rfl))
    ⟨rfl, lawFn1 fun _ _ => rfl⟩ (by kernel_rfl)
    fun W base args ds ps hok hA => law_runs envOk tops8_eq (trueIn_of_B _ _ runs8) W base args ds ps hok hA

theorem windowsNone_holds : Rows.WindowsNoneSaid :=
  OpenClaim.holds_of_wide 8 Try.f8 rfl rfl rfl rfl rfl rfl rfl ⟨rfl, rfl, rfl, rfl, rfl⟩ rfl rfl rfl rfl rfl (by kernel_rfl) Try.func8 (by kernel_rfl)
    (of_decide_eq_true (by kernel_rfl)) (by unfold Func.isWrapper; first | (rw [if_pos (by decide +kernel)]; kernel_rfl) | (rw [if_neg (by decide +kernel)]; exact ⟨rfl, rfl⟩))
    (fun os started H enc _ => lifted8 os started H enc)

end Go.Proofs.Yteahpopaiaokdaa
