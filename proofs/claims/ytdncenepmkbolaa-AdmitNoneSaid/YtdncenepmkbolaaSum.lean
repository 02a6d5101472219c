/-
  The chapters' examples, run once: each hands back true.
-/
import Derived.Test.YtdncenepmkbolaaAbsK
import Derived.Test.YtdncenepmkbolaaEnv
namespace Go.Proofs.Ytdncenepmkbolaa
open Go Go.Abs

def sums (f : FuncId) : Option AV := if f = 13 then some (.bool true) else if f = 36 then some (.bool true) else if f = 48 then some (.bool true) else none
theorem run13 : okTrue (callA env 1000 13 [] H0) = true := by kernel_rfl
theorem run36 : okTrue (callA env 1000 36 [] H0) = true := by kernel_rfl
theorem run48 : okTrue (callA env 1000 48 [] H0) = true := by kernel_rfl
theorem sumOk : SumOk env sums := fun f v h => by
  unfold sums at h
  by_cases h13 : f = 13
  · rw [if_pos h13] at h; cases h; rw [h13]; exact sum_run run13
  rw [if_neg h13] at h
  by_cases h36 : f = 36
  · rw [if_pos h36] at h; cases h; rw [h36]; exact sum_run run36
  rw [if_neg h36] at h
  by_cases h48 : f = 48
  · rw [if_pos h48] at h; cases h; rw [h48]; exact sum_run run48
  rw [if_neg h48] at h
  cases h
theorem sum13 {n : Nat} (hn : 1 ≤ n) (h : Go.Abs.H) : callX env sums n 13 [] h = some (.bool true, h) := by
  obtain ⟨n, rfl⟩ : ∃ k, n = k + 1 := ⟨n - 1, by omega⟩
  rfl
theorem sum36 {n : Nat} (hn : 1 ≤ n) (h : Go.Abs.H) : callX env sums n 36 [] h = some (.bool true, h) := by
  obtain ⟨n, rfl⟩ : ∃ k, n = k + 1 := ⟨n - 1, by omega⟩
  rfl
theorem sum48 {n : Nat} (hn : 1 ≤ n) (h : Go.Abs.H) : callX env sums n 48 [] h = some (.bool true, h) := by
  obtain ⟨n, rfl⟩ : ∃ k, n = k + 1 := ⟨n - 1, by omega⟩
  rfl
end Go.Proofs.Ytdncenepmkbolaa
