/-
  Classes: what a turn changes; who waits is served.
-/
import Derived.Test.YtdncenepmkbolaaSchedH
namespace Go.Proofs.Ytdncenepmkbolaa
open Go Go.Abs Go.Abs.S Go.Abs.W
set_option maxRecDepth 10000
set_option maxHeartbeats 2000000
abbrev QS (cls : List Cl) : List (List AF) := cls.map (·.qs)
abbrev QQ (cls : List Cl) : List Int := cls.map (·.q)
theorem QS_get {cls : List Cl} {i : Nat} {c : Cl} (hi : cls[i]? = some c) : (QS cls)[i]? = some c.qs := by simp [hi]
theorem map_set_same {α β : Type} (f : α → β) {l : List α} {i : Nat} {c c' : α} (hi : l[i]? = some c) (h : f c' = f c) : (l.set i c').map f = l.map f := by
  have hl := (List.getElem?_eq_some_iff.1 hi).1
  rw [List.map_set, h]
  have : (l.map f)[i]? = some (f c) := by rw [List.getElem?_map, hi]; rfl
  rw [List.getElem?_eq_getElem (by simpa using hl)] at this
  rw [← Option.some.inj this, List.set_getElem_self]
theorem pop_head {cls cls' : List Cl} {t t' i : Nat} {st st' : Bool} {a : AF} (k : PopR cls t st a i cls' t' st') : QQ cls' = QQ cls ∧ ∃ rest, (QS cls)[i]? = some (a :: rest) ∧ QS cls' = (QS cls).set i rest := by
  induction k with
  | skip h1 h2 k ih =>
    obtain ⟨e1, rest, e2, e3⟩ := ih
    have m1 := map_set_same (f := fun c : Cl => c.q) (c' := { (_ : Cl) with cr := 0 }) h1 rfl
    have m2 := map_set_same (f := fun c : Cl => c.qs) (c' := { (_ : Cl) with cr := 0 }) h1 rfl
    rw [show QQ _ = _ from m1] at e1
    rw [show QS _ = _ from m2] at e2 e3
    exact ⟨e1, rest, e2, e3⟩
  | pass h1 h2 h3 k ih => exact ih
  | @take cls t st c a rest h1 h2 h3 =>
    refine ⟨map_set_same (f := fun c : Cl => c.q) h1 rfl, rest, ?_, ?_⟩
    · rw [QS_get h1, h2]
    · show List.map _ _ = _; rw [List.map_set]

/-- how often a class can be served in what is left of its turn -/
def Bud (c : Cl) (own : Prop) [Decidable own] : Int := (c.cr + (if own then 0 else c.q)) / 17
/-- how often others can be served ahead of class k -/
def W3 (a b c : Cl) (t : Nat) (st : Bool) (k : Nat) : Int :=
  match t, k with
  | 0, 0 => if st then Bud b False + Bud c False else 0
  | 0, 1 => Bud a (st = true)
  | 0, _ => Bud a (st = true) + Bud b False
  | 1, 1 => if st then Bud c False + Bud a False else 0
  | 1, 0 => Bud b (st = true) + Bud c False
  | 1, _ => Bud b (st = true)
  | _, 0 => Bud c (st = true)
  | _, 1 => Bud c (st = true) + Bud a False
  | _, _ => if st then Bud a False + Bud b False else 0
def Wk (cls : List Cl) (t : Nat) (st : Bool) (k : Nat) : Int := match cls with
  | [a, b, c] => W3 a b c t st k
  | _ => 0
theorem three {α : Type} {l : List α} (h : l.length = 3) : ∃ a b c, l = [a, b, c] := by
  match l, h with
  | [a, b, c], _ => exact ⟨a, b, c, rfl⟩
theorem pop_wait {N : Nat} {cls cls' : List Cl} {t t' i : Nat} {st st' : Bool} {a : AF} (p : PopR cls t st a i cls' t' st') : ScOk N cls t st → cls.length = 3 → ∀ (k : Nat), k < 3 → k ≠ i → (∀ c, cls[k]? = some c → c.qs ≠ []) → Wk cls' t' st' k + 1 ≤ Wk cls t st k := by
  induction p with
  | @skip cls t st c a i cls' t' st' h1 h2 p ih =>
    intro ok h3 k hk hki hw
    have hkt : k ≠ t := by rintro rfl; exact hw _ h1 h2
    refine Int.le_trans (ih (ok.skip h1) (by simpa using h3) k hk hki fun c' hc' => ?_) ?_
    · rw [List.getElem?_set_ne (Ne.symm hkt)] at hc'; exact hw _ hc'
    · obtain ⟨x, y, z, rfl⟩ := three h3
      have ox := ok.ok x (by simp); have oy := ok.ok y (by simp); have oz := ok.ok z (by simp)
      have := ox.q; have := oy.q; have := oz.q; have := ox.cr; have := oy.cr; have := oz.cr
      have ht : t = 0 ∨ t = 1 ∨ t = 2 := by have := ok.tlt; simp at this; omega
      have hk' : k = 0 ∨ k = 1 ∨ k = 2 := by omega
      rcases ht with rfl | rfl | rfl <;> rcases hk' with rfl | rfl | rfl <;> first | exact absurd rfl hkt | (cases st <;> simp [Wk, W3, Bud, nextT] at * <;> omega)
  | @pass cls t c b a rest i cls' t' st' h1 h2 h4 p ih =>
    intro ok h3 k hk hki hw
    refine Int.le_trans (ih (ok.pass h1 h2 h4) h3 k hk hki hw) ?_
    obtain ⟨x, y, z, rfl⟩ := three h3
    have ox := ok.ok x (by simp); have oy := ok.ok y (by simp); have oz := ok.ok z (by simp)
    have := ox.q; have := oy.q; have := oz.q; have := ox.cr; have := oy.cr; have := oz.cr
    have ht : t = 0 ∨ t = 1 ∨ t = 2 := by have := ok.tlt; simp at this; omega
    have hk' : k = 0 ∨ k = 1 ∨ k = 2 := by omega
    rcases ht with rfl | rfl | rfl <;> rcases hk' with rfl | rfl | rfl <;> (simp [Wk, W3, Bud, nextT] at * <;> omega)
  | @take cls t st c a rest h1 h2 h4 =>
    intro ok h3 k hk hki hw
    obtain ⟨x, y, z, rfl⟩ := three h3
    have ox := ok.ok x (by simp); have oy := ok.ok y (by simp); have oz := ok.ok z (by simp)
    have := ox.q; have := oy.q; have := oz.q; have := ox.cr; have := oy.cr; have := oz.cr
    have hc := cost_range ((ok.ok c (List.mem_of_getElem? h1)).ops a (by rw [h2]; simp))
    have ht : t = 0 ∨ t = 1 ∨ t = 2 := by have := ok.tlt; simp at this; omega
    have hk' : k = 0 ∨ k = 1 ∨ k = 2 := by omega
    clear hw
    rcases ht with rfl | rfl | rfl <;> rcases hk' with rfl | rfl | rfl <;> first
      | exact absurd rfl hki
      | (simp at h1; subst h1
         by_cases hr : rest = [] <;> cases st <;> simp [Wk, W3, Bud, nextT, hr] at * <;> omega)
theorem wait_le {N : Nat} {cls : List Cl} {t k : Nat} {st : Bool} {q0 q1 q2 : Int} (ok : ScOk N cls t st) (hq : QQ cls = [q0, q1, q2]) (hk : k < 3) : Wk cls t st k ≤ (q0 + 96) / 17 + (q1 + 96) / 17 + (q2 + 96) / 17 := by
  obtain ⟨x, y, z, rfl⟩ := three (l := cls) (by have := congrArg List.length hq; simpa using this)
  simp at hq
  obtain ⟨rfl, rfl, rfl⟩ := hq
  have ox := ok.ok x (by simp); have oy := ok.ok y (by simp); have oz := ok.ok z (by simp)
  have := ox.q; have := oy.q; have := oz.q; have := ox.cr; have := oy.cr; have := oz.cr
  have c0 := ok.cr 0 x rfl; have c1 := ok.cr 1 y rfl; have c2 := ok.cr 2 z rfl
  have ht : t = 0 ∨ t = 1 ∨ t = 2 := by have := ok.tlt; simp at this; omega
  have hk' : k = 0 ∨ k = 1 ∨ k = 2 := by omega
  rcases ht with rfl | rfl | rfl <;> rcases hk' with rfl | rfl | rfl <;> (cases st <;> simp [Wk, W3, Bud] at * <;> omega)
end Go.Proofs.Ytdncenepmkbolaa
