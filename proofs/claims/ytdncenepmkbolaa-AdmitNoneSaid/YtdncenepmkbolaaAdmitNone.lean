/-
  'AdmitNone': whatever the arguments, the law hands back true; the arguments read as before. No condition.
-/
import Derived.Test.YtdncenepmkbolaaAdmitQ
import Derived.Test.YtdncenepmkbolaaRows
namespace Go.Proofs.Ytdncenepmkbolaa
open Go Go.Abs Go.ChangeShapes Go.WideShapes Go.ChangeAt Go.RowKit

set_option maxRecDepth 100000 in
theorem lifted12 (os : Os) (started : os.Started) (H : Type) (enc : TypeId × Value → H) :
    ReturnsInHanded {} Try.checked os 12 .any (Rows.admitNoneSpec.pre6 enc Try.prog Try.f12 Rows.admitNoneRow.domain false) (Rows.admitNoneSpec.post enc Try.prog Try.f12 false true false false) :=
  law_lifted (C := Try.checked) own started (by kernel_rfl) Try.func12
    (ChangeSpec.witness6 (enc := enc) (C := Try.checked) false ⟨#[], zerosOf Try.prog Try.f12.params, []⟩ 8 (by kernel_rfl) (by kernel_rfl) (by kernel_rfl) (by kernel_rfl))
    ⟨rfl, lawFn2 fun _ _ _ => rfl⟩ (by kernel_rfl)
    fun W base args ds ps hok hA => law_laidX envOk sumOk (by kernel_rfl) (fun h l ho ha => law12 h l ho ha) W base args ds ps hok hA

theorem admitNone_holds : Rows.AdmitNoneSaid :=
  OpenClaim.holds_of_wide 12 Try.f12 rfl rfl rfl rfl rfl rfl rfl ⟨rfl, rfl, rfl, rfl, rfl⟩ rfl rfl rfl rfl rfl (by kernel_rfl) Try.func12 (by kernel_rfl)
    (of_decide_eq_true (by kernel_rfl)) (by unfold Func.isWrapper; first | (rw [if_pos (by decide +kernel)]; kernel_rfl) | (rw [if_neg (by decide +kernel)]; exact ⟨rfl, rfl⟩))
    (fun os started H enc _ => lifted12 os started H enc)

end Go.Proofs.Ytdncenepmkbolaa
