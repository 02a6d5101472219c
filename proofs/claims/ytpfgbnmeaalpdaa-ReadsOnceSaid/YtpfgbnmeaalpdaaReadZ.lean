/-
  'ReadsOnce': whatever the arguments, the law hands back true; the arguments read as before. No condition.
-/
import Derived.Test.YtpfgbnmeaalpdaaReadG
import Derived.Test.YtpfgbnmeaalpdaaRows
namespace Go.Proofs.Ytpfgbnmeaalpdaa
open Go Go.Abs Go.ChangeShapes Go.WideShapes Go.ChangeAt Go.RowKit

set_option maxRecDepth 100000 in
theorem lifted3 (os : Os) (started : os.Started) (H : Type) (enc : TypeId × Value → H) :
    ReturnsInHanded {} Try.checked os 3 .any (Rows.readsOnceSpec.pre6 enc Try.prog Try.f3 Rows.readsOnceRow.domain false) (Rows.readsOnceSpec.post enc Try.prog Try.f3 false true false false) :=
  law_lifted (C := Try.checked) own started (by kernel_rfl) Try.func3
    (ChangeSpec.witness6 (enc := enc) (C := Try.checked) false ⟨#[], zerosOf Try.prog Try.f3.params, []⟩ 8 (by kernel_rfl) (by kernel_rfl) (by kernel_rfl) (by kernel_rfl))
    ⟨rfl, lawFn2 fun _ _ _ => rfl⟩ (by kernel_rfl)
    fun W base args ds ps hok hA => law_laidX envOk sumOk (by kernel_rfl) (fun h l ho ha => law3 h l ho ha) W base args ds ps hok hA

theorem readsOnce_holds : Rows.ReadsOnceSaid :=
  OpenClaim.holds_of_wide 3 Try.f3 rfl rfl rfl rfl rfl rfl rfl ⟨rfl, rfl, rfl, rfl, rfl⟩ rfl rfl rfl rfl rfl (by kernel_rfl) Try.func3 (by kernel_rfl)
    (of_decide_eq_true (by kernel_rfl)) (by unfold Func.isWrapper; first | (rw [if_pos (by decide +kernel)]; kernel_rfl) | (rw [if_neg (by decide +kernel)]; exact ⟨rfl, rfl⟩))
    (fun os started H enc _ => lifted3 os started H enc)

end Go.Proofs.Ytpfgbnmeaalpdaa
