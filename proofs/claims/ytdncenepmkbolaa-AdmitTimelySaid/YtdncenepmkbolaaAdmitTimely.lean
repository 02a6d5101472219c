/-
  'AdmitTimely': whatever the arguments, the law hands back true; the arguments read as before. No condition.
-/
import Derived.Test.YtdncenepmkbolaaAdmitK
import Derived.Test.YtdncenepmkbolaaRows
namespace Go.Proofs.Ytdncenepmkbolaa
open Go Go.Abs Go.ChangeShapes Go.WideShapes Go.ChangeAt Go.RowKit

set_option maxRecDepth 100000 in
theorem lifted10 (os : Os) (started : os.Started) (H : Type) (enc : TypeId × Value → H) :
    ReturnsInHanded {} Try.checked os 10 .any (Rows.admitTimelySpec.pre6 enc Try.prog Try.f10 Rows.admitTimelyRow.domain false) (Rows.admitTimelySpec.post enc Try.prog Try.f10 false true false false) :=
  law_lifted (C := Try.checked) own started (by kernel_rfl) Try.func10
    (ChangeSpec.witness6 (enc := enc) (C := Try.checked) false ⟨#[], zerosOf Try.prog Try.f10.params, []⟩ 8 (by kernel_rfl) (by kernel_rfl) (by kernel_rfl) (by kernel_rfl))
    ⟨rfl, lawFn2 fun _ _ _ => rfl⟩ (by kernel_rfl)
    fun W base args ds ps hok hA => law_laidX envOk sumOk (by kernel_rfl) (fun h l ho ha => law10 h l ho ha) W base args ds ps hok hA

theorem admitTimely_holds : Rows.AdmitTimelySaid :=
  OpenClaim.holds_of_wide 10 Try.f10 rfl rfl rfl rfl rfl rfl rfl ⟨rfl, rfl, rfl, rfl, rfl⟩ rfl rfl rfl rfl rfl (by kernel_rfl) Try.func10 (by kernel_rfl)
    (of_decide_eq_true (by kernel_rfl)) (by unfold Func.isWrapper; first | (rw [if_pos (by decide +kernel)]; kernel_rfl) | (rw [if_neg (by decide +kernel)]; exact ⟨rfl, rfl⟩))
    (fun os started H enc _ => lifted10 os started H enc)

end Go.Proofs.Ytdncenepmkbolaa
