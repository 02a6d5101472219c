/-
  'SchedWorks': whatever the arguments, the law hands back true; the arguments read as before. No condition.
-/
import Derived.Test.YtdncenepmkbolaaSchedP
import Derived.Test.YtdncenepmkbolaaRows
namespace Go.Proofs.Ytdncenepmkbolaa
open Go Go.Abs Go.ChangeShapes Go.WideShapes Go.ChangeAt Go.RowKit

set_option maxRecDepth 100000 in
theorem lifted7 (os : Os) (started : os.Started) (H : Type) (enc : TypeId × Value → H) :
    ReturnsInHanded {} Try.checked os 7 .any (Rows.schedWorksSpec.pre6 enc Try.prog Try.f7 Rows.schedWorksRow.domain false) (Rows.schedWorksSpec.post enc Try.prog Try.f7 false true false false) :=
  law_lifted (C := Try.checked) own started (by kernel_rfl) Try.func7
    (ChangeSpec.witness6 (enc := enc) (C := Try.checked) false ⟨#[], zerosOf Try.prog Try.f7.params, []⟩ 8 (by kernel_rfl) (by kernel_rfl) (by kernel_rfl) (by kernel_rfl))
    ⟨rfl, lawFn2 fun _ _ _ => rfl⟩ (by kernel_rfl)
    fun W base args ds ps hok hA => law_laidX envOk sumOk (by kernel_rfl) (fun h l ho ha => law7 h l ho ha) W base args ds ps hok hA

theorem schedWorks_holds : Rows.SchedWorksSaid :=
  OpenClaim.holds_of_wide 7 Try.f7 rfl rfl rfl rfl rfl rfl rfl ⟨rfl, rfl, rfl, rfl, rfl⟩ rfl rfl rfl rfl rfl (by kernel_rfl) Try.func7 (by kernel_rfl)
    (of_decide_eq_true (by kernel_rfl)) (by unfold Func.isWrapper; first | (rw [if_pos (by decide +kernel)]; kernel_rfl) | (rw [if_neg (by decide +kernel)]; exact ⟨rfl, rfl⟩))
    (fun os started H enc _ => lifted7 os started H enc)

end Go.Proofs.Ytdncenepmkbolaa
