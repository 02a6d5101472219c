/-
  The program's tables for the abstract machine, and that they are the program's. No condition.
-/
import Derived.Test.YteahpopaiaokdaaAbsK
import Derived.Test.YteahpopaiaokdaaChecked
namespace Go.Proofs.Yteahpopaiaokdaa
open Go Go.Abs

noncomputable def env : Env := ⟨mkTT Try.prog Try.prog.types.size, mkFT Try.prog.funcs.toList 0⟩
theorem envOk : EnvOk Try.prog env := envOk_mk _ _ (by kernel_rfl)
theorem own : ownKnob Try.prog.godebug = none := by kernel_rfl
end Go.Proofs.Yteahpopaiaokdaa
