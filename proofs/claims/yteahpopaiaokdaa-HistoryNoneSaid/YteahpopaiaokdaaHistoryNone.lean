/-
  'HistoryNone': whatever the arguments, the law hands back true; the arguments read as before. No condition.
-/
import Derived.Test.YteahpopaiaokdaaEnv
import Derived.Test.YteahpopaiaokdaaRows
namespace Go.Proofs.Yteahpopaiaokdaa
open Go Go.Abs Go.ChangeShapes Go.WideShapes Go.ChangeAt Go.RowKit

noncomputable def tops3 : List Top := (topsOf Try.prog Try.f3.params.toList).getD []
theorem tops3_eq : topsOf Try.prog Try.f3.params.toList = some tops3 := by kernel_rfl
theorem runs3 : trueInB env 1000 3 (shOf Try.prog Try.f3.params.toList) (.cut 4 200 (.cut 5 200 (.cut 10 200 .run .run) .run) .run) tops3 = true := by kernel_rfl

set_option maxRecDepth 100000 in
theorem lifted3 (os : Os) (started : os.Started) (H : Type) (enc : TypeId × Value → H) :
    ReturnsInHanded {} Try.checked os 3 .any (Rows.historyNoneSpec.pre6 enc Try.prog Try.f3 Rows.historyNoneRow.domain false) (Rows.historyNoneSpec.post enc Try.prog Try.f3 false true false false) :=
  law_lifted (C := Try.checked) own started (by kernel_rfl) Try.func3
    (ChangeSpec.witness6 (enc := enc) (C := Try.checked) false ⟨#[], zerosOf Try.prog Try.f3.params, []⟩ 8 (by kernel_rfl) (by kernel_rfl) (by kernel_rfl) (by kernel_rfl))
    ⟨rfl, lawFn1 fun _ _ => rfl⟩ (by kernel_rfl)
    fun W base args ds ps hok hA => law_runs envOk tops3_eq (trueIn_of_B _ _ runs3) W base args ds ps hok hA

theorem historyNone_holds : Rows.HistoryNoneSaid :=
  OpenClaim.holds_of_wide 3 Try.f3 rfl rfl rfl rfl rfl rfl rfl ⟨rfl, rfl, rfl, rfl, rfl⟩ rfl rfl rfl rfl rfl (by kernel_rfl) Try.func3 (by kernel_rfl)
    (of_decide_eq_true (by kernel_rfl)) (by unfold Func.isWrapper; first | (rw [if_pos (by decide +kernel)]; kernel_rfl) | (rw [if_neg (by decide +kernel)]; exact ⟨rfl, rfl⟩))
    (fun os started H enc _ => lifted3 os started H enc)

end Go.Proofs.Yteahpopaiaokdaa
