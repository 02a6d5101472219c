/-
  'SchedNone': whatever the arguments, the law hands back true; the arguments read as before. No condition.
-/
import Derived.Test.YteahpopaiaokdaaEnv
import Derived.Test.YteahpopaiaokdaaRows
namespace Go.Proofs.Yteahpopaiaokdaa
open Go Go.Abs Go.ChangeShapes Go.WideShapes Go.ChangeAt Go.RowKit

noncomputable def tops13 : List Top := (topsOf Try.prog Try.f13.params.toList).getD []
theorem tops13_eq : topsOf Try.prog Try.f13.params.toList = some tops13 := by kernel_rfl
theorem runs13 : trueInB env 1000 13 (shOf Try.prog Try.f13.params.toList) (.cut 9 200 (.cut 10 200 (.cut 25 0 .run .run) .run) .run) tops13 = true := by kernel_rfl

set_option maxRecDepth 100000 in
theorem lifted13 (os : Os) (started : os.Started) (H : Type) (enc : TypeId × Value → H) :
    ReturnsInHanded {} Try.checked os 13 .any (Rows.schedNoneSpec.pre6 enc Try.prog Try.f13 Rows.schedNoneRow.domain false) (Rows.schedNoneSpec.post enc Try.prog Try.f13 false true false false) :=
  law_lifted (C := Try.checked) own started (by kernel_rfl) Try.func13
    (ChangeSpec.witness6 (enc := enc) (C := Try.checked) false ⟨#[], zerosOf Try.prog Try.f13.params, []⟩ 8 (by kernel_rfl) (by kernel_rfl) (by kernel_rfl) (by kernel_rfl))
    ⟨rfl, lawFn1 fun _ _ => rfl⟩ (by kernel_rfl)
    fun W base args ds ps hok hA => law_runs envOk tops13_eq (trueIn_of_B _ _ runs13) W base args ds ps hok hA

theorem schedNone_holds : Rows.SchedNoneSaid :=
  OpenClaim.holds_of_wide 13 Try.f13 rfl rfl rfl rfl rfl rfl rfl ⟨rfl, rfl, rfl, rfl, rfl⟩ rfl rfl rfl rfl rfl (by kernel_rfl) Try.func13 (by kernel_rfl)
    (of_decide_eq_true (by kernel_rfl)) (by unfold Func.isWrapper; first | (rw [if_pos (by decide +kernel)]; kernel_rfl) | (rw [if_neg (by decide +kernel)]; exact ⟨rfl, rfl⟩))
    (fun os started H enc _ => lifted13 os started H enc)

end Go.Proofs.Yteahpopaiaokdaa
