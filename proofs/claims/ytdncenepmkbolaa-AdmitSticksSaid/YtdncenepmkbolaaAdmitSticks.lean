/-
  'AdmitSticks': whatever the arguments, the law hands back true; the arguments read as before. No condition.
-/
import Derived.Test.YtdncenepmkbolaaAdmitN
import Derived.Test.YtdncenepmkbolaaRows
namespace Go.Proofs.Ytdncenepmkbolaa
open Go Go.Abs Go.ChangeShapes Go.WideShapes Go.ChangeAt Go.RowKit

set_option maxRecDepth 100000 in
theorem lifted11 (os : Os) (started : os.Started) (H : Type) (enc : TypeId × Value → H) :
    ReturnsInHanded {} Try.checked os 11 .any (Rows.admitSticksSpec.pre6 enc Try.prog Try.f11 Rows.admitSticksRow.domain false) (Rows.admitSticksSpec.post enc Try.prog Try.f11 false true false false) :=
  law_lifted (C := Try.checked) own started (by kernel_rfl) Try.func11
    (ChangeSpec.witness6 (enc := enc) (C := Try.checked) false ⟨#[], zerosOf Try.prog Try.f11.params, []⟩ 8 (by kernel_rfl) (by kernel_rfl) (by kernel_rfl) (by kernel_rfl))
    ⟨rfl, lawFn2 fun _ _ _ => rfl⟩ (by kernel_rfl)
    fun W base args ds ps hok hA => law_laidX envOk sumOk (by kernel_rfl) (fun h l ho ha => law11 h l ho ha) W base args ds ps hok hA

theorem admitSticks_holds : Rows.AdmitSticksSaid :=
  OpenClaim.holds_of_wide 11 Try.f11 rfl rfl rfl rfl rfl rfl rfl ⟨rfl, rfl, rfl, rfl, rfl⟩ rfl rfl rfl rfl rfl (by kernel_rfl) Try.func11 (by kernel_rfl)
    (of_decide_eq_true (by kernel_rfl)) (by unfold Func.isWrapper; first | (rw [if_pos (by decide +kernel)]; kernel_rfl) | (rw [if_neg (by decide +kernel)]; exact ⟨rfl, rfl⟩))
    (fun os started H enc _ => lifted11 os started H enc)

end Go.Proofs.Ytdncenepmkbolaa
