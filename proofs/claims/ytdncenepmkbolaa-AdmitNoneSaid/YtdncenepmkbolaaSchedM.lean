/-
  'SchedAll': the law's run, whatever is handed in.
-/
import Derived.Test.YtdncenepmkbolaaSchedL
import Derived.Test.YtdncenepmkbolaaSx
namespace Go.Proofs.Ytdncenepmkbolaa
open Go Go.Abs Go.Abs.S Go.Abs.W
set_option maxRecDepth 10000
set_option maxHeartbeats 2000000
theorem pars6 : Try.f6.params.toList = [62, 71] := by kernel_rfl
theorem shape62' : shapeOf Try.prog 9 62 = some [.int .u16, .int .u16, .int .u16] := by kernel_rfl
theorem shape71 : shapeOf Try.prog 9 71 = some [.sl 3 [.int .u8, .int .u8, .bool]] := by kernel_rfl
theorem agg62' : aggT Try.prog 62 = true := by kernel_rfl
theorem agg71 : aggT Try.prog 71 = false := by kernel_rfl
/-- a queue and what the law wrote down of it -/
def Same (i : Nat) (qs : List AF) (xs : List Int) : Prop := qs.map (fun a => cI a.1 3) = xs ∧ ∀ a ∈ qs, AOk a ∧ cI a.1 5 = i
def Bks (cls : List Cl) (ps : List LP) : Prop := cls.length = 3 ∧ ps.length = 3 ∧ ∀ (i : Nat) (qs : List AF) (p : LP), (QS cls)[i]? = some qs → ps[i]? = some p → Same i qs p.2
noncomputable def many (ps : List LP) : Nat := (ps.map (·.2.length)).sum
theorem set_sum {α : Type} (f : α → Nat) : ∀ {l : List α} {i : Nat} {x y : α}, l[i]? = some x → ((l.set i y).map f).sum + f x = (l.map f).sum + f y
  | [], i, x, y, h => by simp at h
  | a :: l, 0, x, y, h => by simp at h; subst h; simp; omega
  | a :: l, i + 1, x, y, h => by
    have := set_sum f (l := l) (i := i) (y := y) (by simpa using h)
    simp only [List.set_cons_succ, List.map_cons, List.sum_cons]; omega
theorem same_push {i : Nat} {qs : List AF} {xs : List Int} {a : AF} {x : Int} (k : Same i qs xs) (ha : AOk a) (h3 : cI a.1 3 = x) (h5 : cI a.1 5 = i) : Same i (qs ++ [a]) (xs ++ [x]) := by
  refine ⟨by rw [List.map_append, k.1]; simp [h3], fun b hb => ?_⟩
  rcases List.mem_append.1 hb with hb | hb
  · exact k.2 b hb
  · rw [List.mem_singleton] at hb; subst hb; exact ⟨ha, h5⟩
theorem bks_set {cls cls' : List Cl} {ps : List LP} {i : Nat} {qs : List AF} {p : LP} (k : Bks cls ps) (hq : QS cls' = (QS cls).set i qs) (hs : Same i qs p.2) : Bks cls' (ps.set i p) := by
  refine ⟨?_, by simpa using k.2.1, fun j qs' p' h1 h2 => ?_⟩
  · have := congrArg List.length hq; simp at this; rw [this]; exact k.1
  · rw [hq] at h1
    by_cases hj : j = i
    · subst hj
      have l1 := (List.getElem?_eq_some_iff.1 h1).1
      have l2 := (List.getElem?_eq_some_iff.1 h2).1
      rw [List.getElem?_set_self (by simpa using l1)] at h1
      rw [List.getElem?_set_self (by simpa using l2)] at h2
      cases h1; cases h2; exact hs
    · rw [List.getElem?_set_ne (Ne.symm hj)] at h1 h2
      exact k.2.2 j qs' p' h1 h2
theorem qs_any {cls : List Cl} {ps : List LP} (k : Bks cls ps) (hm : 0 < many ps) : ∃ c ∈ cls, c.qs ≠ [] := by
  refine Classical.byContradiction fun hn => ?_
  have hall : ∀ c ∈ cls, c.qs = [] := fun c hc => Classical.byContradiction fun h => hn ⟨c, hc, h⟩
  have : many ps = 0 := by
    unfold many
    rw [List.sum_eq_zero_iff_forall_eq_nat]
    intro x hx
    rw [List.mem_map] at hx
    obtain ⟨p, hp, rfl⟩ := hx
    obtain ⟨i, hi, he⟩ := List.getElem_of_mem hp
    have hc : i < cls.length := by have := k.1; have := k.2.1; omega
    have := k.2.2 i cls[i].qs p (by simp [hc]) (by rw [List.getElem?_eq_getElem hi, he])
    rw [hall _ (List.getElem_mem hc)] at this
    have := this.1
    simp at this
    simp [← this]
  omega
theorem qs_none {cls : List Cl} {ps : List LP} (k : Bks cls ps) (hm : many ps = 0) : ∀ c ∈ cls, c.qs = [] := by
  intro c hc
  obtain ⟨i, hi, he⟩ := List.getElem_of_mem hc
  have hp : i < ps.length := by have := k.1; have := k.2.1; omega
  have := (k.2.2 i cls[i].qs ps[i] (by simp [hi]) (by simp [hp])).1
  unfold many at hm
  rw [List.sum_eq_zero_iff_forall_eq_nat] at hm
  have h0 := hm ps[i].2.length (List.mem_map_of_mem (f := fun p : LP => p.2.length) (List.getElem_mem hp))
  have h1 := congrArg List.length this
  rw [List.length_map, h0, he] at h1
  exact List.length_eq_zero_iff.1 h1
theorem wait_pos {N : Nat} {cls : List Cl} {t k : Nat} {st : Bool} (ok : ScOk N cls t st) : 0 ≤ Wk cls t st k := by
  unfold Wk
  split
  · rename_i x y z
    have ox := ok.ok x (by simp); have oy := ok.ok y (by simp); have oz := ok.ok z (by simp)
    have := ox.q; have := oy.q; have := oz.q; have := ox.cr; have := oy.cr; have := oz.cr
    unfold W3
    split <;> (cases st <;> simp [Bud] <;> omega)
  · omega
end Go.Proofs.Ytdncenepmkbolaa
