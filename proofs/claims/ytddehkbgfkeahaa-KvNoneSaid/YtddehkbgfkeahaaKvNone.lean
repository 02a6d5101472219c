/-
  'KvNone': whatever the arguments, the law hands back true; the arguments read as before. No condition.
-/
import Derived.Test.YtddehkbgfkeahaaEnv
import Derived.Test.YtddehkbgfkeahaaRows
namespace Go.Proofs.Ytddehkbgfkeahaa
open Go Go.Abs Go.ChangeShapes Go.WideShapes Go.ChangeAt Go.RowKit

noncomputable def tops4 : List Top := (topsOf Try.prog Try.f4.params.toList).getD []
theorem tops4_eq : topsOf Try.prog Try.f4.params.toList = some tops4 := by kernel_rfl
theorem runs4 : trueInB env 1000 4 (shOf Try.prog Try.f4.params.toList) (.cut 3 300 (.cut 4 300 .run .run) .run) tops4 = true := by kernel_rfl

set_option maxRecDepth 100000 in
theorem lifted4 (os : Os) (started : os.Started) (H : Type) (enc : TypeId × Value → H) :
    ReturnsInHanded {} Try.checked os 4 .any (Rows.kvNoneSpec.pre6 enc Try.prog Try.f4 Rows.kvNoneRow.domain false) (Rows.kvNoneSpec.post enc Try.prog Try.f4 false true false false) :=
  law_lifted (C := Try.checked) own started (by kernel_rfl) Try.func4
    (ChangeSpec.witness6 (enc := enc) (C := Try.checked) false ⟨#[], zerosOf Try.prog Try.f4.params, []⟩ 8 (by kernel_rfl) (by kernel_rfl) (by kernel_rfl) (by kernel_rfl))
    ⟨rfl, lawFn1 fun _ _ => rfl⟩ (by kernel_rfl)
    fun W base args ds ps hok hA => law_runs envOk tops4_eq (trueIn_of_B _ _ runs4) W base args ds ps hok hA

theorem kvNone_holds : Rows.KvNoneSaid :=
  OpenClaim.holds_of_wide 4 Try.f4 rfl rfl rfl rfl rfl rfl rfl ⟨rfl, rfl, rfl, rfl, rfl⟩ rfl rfl rfl rfl rfl (by kernel_rfl) Try.func4 (by kernel_rfl)
    (of_decide_eq_true (by kernel_rfl)) (by unfold Func.isWrapper; first | (rw [if_pos (by decide +kernel)]; kernel_rfl) | (rw [if_neg (by decide +kernel)]; exact ⟨rfl, rfl⟩))
    (fun os started H enc _ => lifted4 os started H enc)

end Go.Proofs.Ytddehkbgfkeahaa
