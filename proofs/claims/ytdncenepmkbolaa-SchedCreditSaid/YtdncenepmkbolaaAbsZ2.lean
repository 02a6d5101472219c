/-
  Append.
-/
import Derived.Test.YtdncenepmkbolaaAbsZ
namespace Go.Abs
open Go

section
variable {P : Program} {E : Env} {ρ : Pl} {fr : T AV} {ev : Operand → Value}

/-- the second argument of an append is no number -/
def srcType (P : Program) (t : TypeId) : Prop := (∃ e, P.underlying t = some (.slice e)) ∨ P.underlying t = some .string

theorem run_append_in {w w' : World} {ts : Array TypeId} {t t2 ty e : TypeId} {i : TypeInfo} (h0 : ts[0]? = some t) (h1 : ts[1]? = some t2) (ht : P.underlying t = some (.slice e)) (ht2 : srcType P t2) (hi : P.info? e = some i)
    {a : Addr} {sLen sCap n : Nat} {q : Value} {news : List Value} (hq : (Builtin.lenOf q).run P w = .ok n w) (hf : (Builtin.firstCells i.size n q).run P w = .ok news.toArray w) (hfit : sLen + n ≤ sCap)
    (hst : (storeCells (a.add (sLen * i.size)) news).run P w = .ok () w') :
    (Builtin.append_ ts ty #[.slice (some a) sLen sCap, q]).run P w = .ok (.slice (some a) (sLen + n) sCap) w' := by
  rcases ht2 with ⟨e2, ht2⟩ | ht2 <;>
  simp [Builtin.append_, h0, h1, run_underlying ht, run_underlying ht2, sizeOf, typeInfo, hi, hq, hfit, hf, hst]

theorem run_append_new {w : World} {ts : Array TypeId} {t t2 ty e : TypeId} {i : TypeInfo} {z : Value} (h0 : ts[0]? = some t) (h1 : ts[1]? = some t2) (ht : P.underlying t = some (.slice e)) (ht2 : srcType P t2) (hi : P.info? e = some i) (hz : i.zero = some z)
    {b : Option Addr} {sLen sCap n : Nat} {q : Value} {olds news : List Value} (hq : (Builtin.lenOf q).run P w = .ok n w) (hf : (Builtin.firstCells i.size n q).run P w.drew = .ok news.toArray w.drew)
    (hfo : (Builtin.firstCells i.size sLen (.slice b sLen sCap)).run P w.drew = .ok olds.toArray w.drew) (hn : sCap < sLen + n) (h63 : sLen + n ≤ 1099511627776) (h48 : (sLen + n) * i.bytes ≤ 1099511627776) :
    (Builtin.append_ ts ty #[.slice b sLen sCap, q]).run P w = .ok (.slice (some ⟨w.heap.size, 0, none⟩) (sLen + n) (grownCap w (sLen + n) sCap e))
      (w.drew.alloc (.cells (olds.toArray ++ news.toArray ++ Builtin.zeroCells z.cells (grownCap w (sLen + n) sCap e - (sLen + n))) e)) := by
  have k1 : ¬ (sLen + n ≤ sCap) := by omega
  have k2 : ¬ (9223372036854775807 < ((sLen : Int) + (n : Int))) := by omega
  have k3 : ¬ (281474976710656 < Builtin.nextslicecap (sLen + n) sCap * i.bytes) := by
    have := growslice_fits (need := sLen + n) (old := sCap) (bytes := i.bytes) hn (by omega)
    omega
  rcases ht2 with ⟨e2, ht2⟩ | ht2 <;>
  · simp [Builtin.append_, h0, h1, run_underlying ht, run_underlying ht2, sizeOf, typeInfo, zeroValue, hi, hz, hq, k1, k2, k3, Question.forced, hf, hfo, newRow, grownCap]
    try (congr 2; apply Array.ext'; simp [List.append_assoc])

/-- nothing is appended -/
theorem run_append_none {w : World} {ts : Array TypeId} {t t2 ty e : TypeId} {i : TypeInfo} (h0 : ts[0]? = some t) (h1 : ts[1]? = some t2) (ht : P.underlying t = some (.slice e)) (ht2 : srcType P t2) (hi : P.info? e = some i)
    {b : Option Addr} {sLen sCap : Nat} {q : Value} (hq : (Builtin.lenOf q).run P w = .ok 0 w) (hf : (Builtin.firstCells i.size 0 q).run P w = .ok #[] w) (hle : sLen ≤ sCap) :
    (Builtin.append_ ts ty #[.slice b sLen sCap, q]).run P w = .ok (.slice b sLen sCap) w := by
  rcases ht2 with ⟨e2, ht2⟩ | ht2 <;> cases b <;>
  simp [Builtin.append_, h0, h1, run_underlying ht, run_underlying ht2, sizeOf, typeInfo, hi, hq, hle, hf, storeCells]

end
end Go.Abs
