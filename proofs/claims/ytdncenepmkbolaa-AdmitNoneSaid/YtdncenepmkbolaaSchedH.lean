/-
  'SchedCredit': the law's run, whatever is handed in.
-/
import Derived.Test.YtdncenepmkbolaaSchedG
import Derived.Test.YtdncenepmkbolaaSum
namespace Go.Proofs.Ytdncenepmkbolaa
open Go Go.Abs Go.Abs.S Go.Abs.W
set_option maxRecDepth 10000
set_option maxHeartbeats 2000000
theorem turned_ok {n : Nat} (hn : 1 ≤ n) (h : Go.Abs.H) : callX env sums n 36 [] h = some (.bool true, h) := by
  obtain ⟨n, rfl⟩ : ∃ k, n = k + 1 := ⟨n - 1, by omega⟩
  rfl
theorem ScOk.push {N : Nat} {cls : List Cl} {t i : Nat} {st : Bool} {c : Cl} {a : AF} (k : ScOk N cls t st) (hi : cls[i]? = some c) (hl : c.qs.length < N) (ho : opOk (opOf a)) : ScOk N (cls.set i { c with qs := c.qs ++ [a] }) t st := by
  have hil := (List.getElem?_eq_some_iff.1 hi).1
  have hc := k.ok c (List.mem_of_getElem? hi)
  refine ⟨by intro e; rw [List.set_eq_nil_iff] at e; exact k.ne e, by simpa using k.le, by simpa using k.tlt, fun d hd => ?_, fun j d hd => ?_⟩
  · rcases List.mem_or_eq_of_mem_set hd with hd | rfl
    · exact k.ok d hd
    · refine ⟨hc.q, hc.cr, hc.sv, fun x hx => ?_, by simp; omega⟩
      rcases List.mem_append.1 hx with hx | hx
      · exact hc.ops x hx
      · rw [List.mem_singleton] at hx; subst hx; exact ho
  · rcases set_get hil hd with ⟨rfl, rfl⟩ | ⟨h1, h2⟩
    · exact k.cr j c hi
    · exact k.cr j d h2
theorem ScOk.fresh {N : Nat} {cls : List Cl} {qs : List Int} (hf : fresh cls qs) (h1 : 1 ≤ qs.length ∧ qs.length ≤ 4) (hq : ∀ q ∈ qs, 96 ≤ q ∧ q ≤ 65536) : ScOk N cls 0 false := by
  have hl : cls.length = qs.length := by have := congrArg List.length hf.1; simpa using this
  refine ⟨by rintro rfl; simp at hl; omega, by omega, by omega, fun c hc => ?_, fun i c hi => ?_⟩
  · obtain ⟨f1, f2, f3⟩ := hf.2 c hc
    refine ⟨hq _ (by rw [← hf.1]; exact List.mem_map_of_mem hc), by omega, by rw [f2]; simp, by simp [f3], by simp [f3]⟩
  · obtain ⟨f1, _⟩ := hf.2 c (List.mem_of_getElem? hi)
    simp [f1]
section
variable {N : Nat} {q0 q1 : Int} {cls : List Cl} {t i : Nat} {st : Bool} {c : Cl} {a : AF}
theorem Two.get (w : Two q0 q1 cls) (hi : i < 2) : cls[i]? = some (C cls i) := by
  obtain ⟨c0, c1, rfl, _⟩ := w
  have : i = 0 ∨ i = 1 := by omega
  rcases this with rfl | rfl <;> rfl
theorem Two.push (w : Two q0 q1 cls) (hi : i < 2) (ha : Whole i a) : Two q0 q1 (cls.set i { C cls i with qs := (C cls i).qs ++ [a] }) := by
  obtain ⟨c0, c1, rfl, e0, e1, w0, w1⟩ := w
  have : i = 0 ∨ i = 1 := by omega
  rcases this with rfl | rfl
  · refine ⟨_, _, rfl, e0, e1, fun x hx => ?_, w1⟩
    rcases List.mem_append.1 hx with hx | hx
    · exact w0 x hx
    · rw [List.mem_singleton] at hx; subst hx; exact ha
  · refine ⟨_, _, rfl, e0, e1, w0, fun x hx => ?_⟩
    rcases List.mem_append.1 hx with hx | hx
    · exact w1 x hx
    · rw [List.mem_singleton] at hx; subst hx; exact ha
end
end Go.Proofs.Ytdncenepmkbolaa
