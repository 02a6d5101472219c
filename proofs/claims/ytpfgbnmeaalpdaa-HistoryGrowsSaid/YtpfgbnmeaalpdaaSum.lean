/-
  The chapters' examples, run once: each hands back true.
-/
import Derived.Test.YtpfgbnmeaalpdaaAbsB
import Derived.Test.YtpfgbnmeaalpdaaEnv
namespace Go.Proofs.Ytpfgbnmeaalpdaa
open Go Go.Abs

def sums (f : FuncId) : Option AV := if f = 10 then some (.bool true) else if f = 27 then some (.bool true) else if f = 33 then some (.bool true) else none
theorem run10 : okTrue (callA env 1000 10 [] H0) = true := by kernel_rfl
theorem run27 : okTrue (callA env 1000 27 [] H0) = true := by kernel_rfl
theorem run33 : okTrue (callA env 1000 33 [] H0) = true := by kernel_rfl
theorem sumOk : SumOk env sums := fun f v h => by
  unfold sums at h
  by_cases h1 : f = 10
  · rw [if_pos h1] at h; cases h; rw [h1]; exact sum_run run10
  · rw [if_neg h1] at h
    by_cases h2 : f = 27
    · rw [if_pos h2] at h; cases h; rw [h2]; exact sum_run run27
    · rw [if_neg h2] at h
      by_cases h3 : f = 33
      · rw [if_pos h3] at h; cases h; rw [h3]; exact sum_run run33
      · rw [if_neg h3] at h; cases h
end Go.Proofs.Ytpfgbnmeaalpdaa
