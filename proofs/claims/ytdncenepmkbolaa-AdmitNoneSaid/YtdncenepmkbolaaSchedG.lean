/-
  'SchedCredit': two classes that have requests that count for 96 bytes, in plain lists.
-/
import Derived.Test.YtdncenepmkbolaaSchedF
import Derived.Test.YtdncenepmkbolaaSx
namespace Go.Proofs.Ytdncenepmkbolaa
open Go Go.Abs Go.Abs.S Go.Abs.W
set_option maxRecDepth 10000
set_option maxHeartbeats 2000000

/-- a whole request of a class -/
def Whole (i : Nat) (a : AF) : Prop := ∃ s, a = af (req i s 9 key16 (List.replicate 64 0))
theorem whole_cost {i : Nat} {a : AF} (h : Whole i a) : costO (opOf a) = 96 ∧ opOk (opOf a) ∧ nth a.1 5 = some (.int .i64 i) := by
  obtain ⟨s, rfl⟩ := h
  refine ⟨?_, req_ok (by simp) (by simp) (by simp), rfl⟩
  rw [req_op]; simp [costO]
/-- two classes of whole requests -/
structure Two (q0 q1 : Int) (cls : List Cl) : Prop where
  two : ∃ c0 c1, cls = [c0, c1] ∧ c0.q = q0 ∧ c1.q = q1 ∧ (∀ a ∈ c0.qs, Whole 0 a) ∧ ∀ a ∈ c1.qs, Whole 1 a
/-- what is served of the second one, its credit, how many wait -/
abbrev C (cls : List Cl) (i : Nat) : Cl := cls.getD i ⟨0, 0, 0, 0, []⟩
section
variable {N : Nat} {q0 q1 : Int} {cls cls' : List Cl} {t t' i : Nat} {st st' : Bool} {a : AF}
/-- one class alone has requests, the first: it is taken out of that -/
theorem pop_one (k : PopR cls t st a i cls' t' st') : Two q0 q1 cls → (C cls 1).qs = [] → (C cls 0).qs.length ≤ 1 → (C cls 1).cr = 0 → (C cls 1).sv = 0 →
    Two q0 q1 cls' ∧ (C cls' 1).qs = [] ∧ (C cls' 0).qs = [] ∧ (C cls' 1).cr = 0 ∧ (C cls' 1).sv = 0 ∧ st' = false := by
  induction k with
  | @skip cls t st c a i cls' t' st' h1 h2 k ih =>
    intro ⟨c0, c1, e, e0, e1, w0, w1⟩ a1 a2 a3 a4
    subst e
    have ht : t = 0 ∨ t = 1 := by
      have := (List.getElem?_eq_some_iff.1 h1).1; simp at this; omega
    rcases ht with rfl | rfl
    · simp at h1; subst h1
      exact ih ⟨_, _, rfl, e0, e1, w0, w1⟩ a1 a2 a3 a4
    · simp at h1; subst h1
      exact ih ⟨_, _, rfl, e0, e1, w0, w1⟩ a1 a2 rfl a4
  | @pass cls t c b a rest i cls' t' st' h1 h2 h3 k ih => intro w a1 a2 a3 a4; exact ih w a1 a2 a3 a4
  | @take cls t st c a rest h1 h2 h3 =>
    intro ⟨c0, c1, e, e0, e1, w0, w1⟩ a1 a2 a3 a4
    subst e
    have ht : t = 0 ∨ t = 1 := by
      have := (List.getElem?_eq_some_iff.1 h1).1; simp at this; omega
    rcases ht with rfl | rfl
    · simp at h1; subst h1
      have a2' : c0.qs.length ≤ 1 := a2
      have hr : rest = [] := by
        rw [h2] at a2'; simp at a2'; exact a2'
      subst hr
      exact ⟨⟨_, _, rfl, e0, e1, by simp, w1⟩, a1, rfl, a3, a4, by simp⟩
    · simp at h1; subst h1
      have a1' : c1.qs = [] := a1
      rw [a1'] at h2; cases h2
/-- both have requests: which one is taken out -/
theorem pop_two (k : PopR cls t st a i cls' t' st') (ok : ScOk N cls t st) (w : Two q0 q1 cls) (n0 : (C cls 0).qs ≠ []) (n1 : (C cls 1).qs ≠ []) (sm : (C cls 1).sv ≤ 1000000) :
    Two q0 q1 cls' ∧ Whole i a ∧ i < 2 ∧ (C cls' 1).sv = (C cls 1).sv + (if i = 1 then 96 else 0) ∧ (C cls' 0).qs.length + (C cls' 1).qs.length + 1 = (C cls 0).qs.length + (C cls 1).qs.length ∧
    ((t = 0 ∨ st = false) → (C cls 1).cr = 0 → (i = 0 ∧ (C cls' 1).cr = 0 ∧ (t' = 0 ∨ st' = false)) ∨ (i = 1 ∧ ((C cls' 1).qs = [] ∨ (t' = 1 ∧ st' = true ∧ (C cls' 1).cr = q1 - 96)))) ∧
    ((t = 1 ∧ st = true) → (i = 1 ∧ 96 ≤ (C cls 1).cr ∧ ((C cls' 1).qs = [] ∨ (t' = 1 ∧ st' = true ∧ (C cls' 1).cr = (C cls 1).cr - 96))) ∨ i = 0) := by
  obtain ⟨c0, c1, rfl, e0, e1, w0, w1⟩ := w
  have m0 : c0.qs ≠ [] := n0
  have m1 : c1.qs ≠ [] := n1
  have sv1 := (ok.ok c1 (by simp)).sv
  have sm1 : c1.sv ≤ 1000000 := sm
  have l2 : [c0, c1].length = 2 := rfl
  have nx0 : nextT 0 2 = 1 := rfl
  have nx1 : nextT 1 2 = 0 := rfl
  have two : ∀ {t : Nat} {c : Cl}, [c0, c1][t]? = some c → (t = 0 ∧ c = c0) ∨ (t = 1 ∧ c = c1) := fun {t c} h1 => by
    have : t = 0 ∨ t = 1 := by
      have := (List.getElem?_eq_some_iff.1 h1).1; simp at this; omega
    rcases this with rfl | rfl
    · simp at h1; exact .inl ⟨rfl, h1.symm⟩
    · simp at h1; exact .inr ⟨rfl, h1.symm⟩
  cases k with
  | skip h1 h2 _ =>
    rcases two h1 with ⟨rfl, rfl⟩ | ⟨rfl, rfl⟩
    · exact absurd h2 m0
    · exact absurd h2 m1
  | @take _ _ _ c _ rest h1 h2 h3 =>
    rcases two h1 with ⟨rfl, rfl⟩ | ⟨rfl, rfl⟩
    · have hw := w0 a (by rw [h2]; simp)
      refine ⟨⟨_, _, rfl, e0, e1, fun x hx => w0 x (by rw [h2]; exact List.mem_cons_of_mem _ hx), w1⟩, hw, by omega, by simp [C], ?_, fun _ hc => .inl ⟨rfl, hc, ?_⟩, fun h => by omega⟩
      · show rest.length + c1.qs.length + 1 = c.qs.length + c1.qs.length
        rw [h2]; simp; omega
      · by_cases hr : rest = []
        · right; simp [hr]
        · left; simp [hr]
    · have hw := w1 a (by rw [h2]; simp)
      have hcost := (whole_cost hw).1
      refine ⟨⟨_, _, rfl, e0, e1, w0, fun x hx => w1 x (by rw [h2]; exact List.mem_cons_of_mem _ hx)⟩, hw, by omega, ?_, ?_, fun h hc => .inr ⟨rfl, ?_⟩, fun h => .inl ⟨rfl, ?_, ?_⟩⟩
      · show min (c.sv + costO (opOf a)) most = c.sv + _
        rw [hcost, if_pos rfl]; simp only [most]; omega
      · show c0.qs.length + rest.length + 1 = c0.qs.length + c.qs.length
        rw [h2]; simp; omega
      · have hst : st = false := by rcases h with h | h <;> first | omega | exact h
        subst hst
        by_cases hr : rest = []
        · exact .inl hr
        · right
          refine ⟨by simp [hr], by simp [hr], ?_⟩
          show (if rest = [] then (0 : Int) else c.cr + (if (false : Bool) then 0 else c.q) - costO (opOf a)) = q1 - 96
          have hc0 : c.cr = 0 := hc
          rw [if_neg hr, hcost, hc0, e1]; simp
      · have hst := h.2
        subst hst
        show 96 ≤ c.cr
        rw [hcost] at h3; simpa using h3
      · have hst := h.2
        subst hst
        by_cases hr : rest = []
        · exact .inl hr
        · right
          refine ⟨by simp [hr], by simp [hr], ?_⟩
          show (if rest = [] then (0 : Int) else c.cr + (if (true : Bool) then 0 else c.q) - costO (opOf a)) = c.cr - 96
          rw [if_neg hr, hcost]; simp
  | @pass _ _ c b _ rest0 _ _ _ _ h1 h2 h3 k =>
    rcases two h1 with ⟨rfl, rfl⟩ | ⟨rfl, rfl⟩
    · rw [l2, nx0] at k
      cases k with
      | skip g1 g2 _ =>
        rcases two g1 with ⟨h, _⟩ | ⟨_, rfl⟩
        · omega
        · exact absurd g2 m1
      | @take _ _ _ d _ rest g1 g2 g3 =>
        rcases two g1 with ⟨h, _⟩ | ⟨_, rfl⟩
        · omega
        have hw := w1 a (by rw [g2]; simp)
        have hcost := (whole_cost hw).1
        refine ⟨⟨_, _, rfl, e0, e1, w0, fun x hx => w1 x (by rw [g2]; exact List.mem_cons_of_mem _ hx)⟩, hw, by omega, ?_, ?_, fun h hc => .inr ⟨rfl, ?_⟩, fun h => by omega⟩
        · show min (d.sv + costO (opOf a)) most = d.sv + _
          rw [hcost, if_pos rfl]; simp only [most]; omega
        · show c.qs.length + rest.length + 1 = c.qs.length + d.qs.length
          rw [g2]; simp; omega
        · by_cases hr : rest = []
          · exact .inl hr
          · right
            refine ⟨by simp [hr], by simp [hr], ?_⟩
            show (if rest = [] then (0 : Int) else d.cr + (if (false : Bool) then 0 else d.q) - costO (opOf a)) = q1 - 96
            have hc0 : d.cr = 0 := hc
            rw [if_neg hr, hcost, hc0, e1]; simp
    · rw [l2, nx1] at k
      cases k with
      | skip g1 g2 _ =>
        rcases two g1 with ⟨_, rfl⟩ | ⟨h, _⟩
        · exact absurd g2 m0
        · omega
      | @take _ _ _ d _ rest g1 g2 g3 =>
        rcases two g1 with ⟨_, rfl⟩ | ⟨h, _⟩
        rotate_left
        · omega
        have hw := w0 a (by rw [g2]; simp)
        refine ⟨⟨_, _, rfl, e0, e1, fun x hx => w0 x (by rw [g2]; exact List.mem_cons_of_mem _ hx), w1⟩, hw, by omega, by simp [C], ?_, fun h => ?_, fun _ => .inr rfl⟩
        · show rest.length + c.qs.length + 1 = d.qs.length + c.qs.length
          rw [g2]; simp; omega
        · rcases h with h | h
          · omega
          · cases h
end
end Go.Proofs.Ytdncenepmkbolaa
