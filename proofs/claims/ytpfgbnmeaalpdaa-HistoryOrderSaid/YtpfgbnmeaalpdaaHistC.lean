/-
  History: copies of the records; are acts more than is gone through; and what calls, and their ends, come to, in plain lists.
-/
import Derived.Test.YtpfgbnmeaalpdaaHistB
namespace Go.Proofs.Ytpfgbnmeaalpdaa
open Go Go.Abs Go.Abs.S Go.Abs.W
set_option maxRecDepth 10000
set_option maxHeartbeats 1000000

def isNil : AV → Bool
  | .nils => true
  | _ => false
theorem eqn75 {v : AV} {h : Go.Abs.H} {S : List Nat} {rs : List (List AV)} (k : Lst h 14 v rs S) : binop env .eql 75 v .nils = some (.bool (isNil v)) ∧ (v = .nils → rs = []) := by
  rcases k with ⟨rfl, rfl | ⟨b, rfl, _⟩, _⟩ | ⟨b, p, pre, rfl, _⟩
  · exact ⟨by kernel_rfl, fun _ => rfl⟩
  · exact ⟨by kernel_rfl, fun e => by cases e⟩
  · exact ⟨by kernel_rfl, fun e => by cases e⟩
section
variable {h0 h : Go.Abs.H} {L : List Ch} {n : Nat} {r : Nat} {E : Int} {v : AV} {rs : List (List AV)} {ls : Nat → Int}
theorem clone67 (hn : 1 ≤ n) (k : Hs h0 L h) (hv : SlR h 14 v rs) (hb : ∀ x, blkOf v = some x → x < h.n) (h1 : rs.length ≤ 1000) (hk : binop env .eql 75 v .nils = some (.bool (isNil v))) (hz : v = .nils → rs = []) :
    ∃ v' h', callX env sums n 67 [v] h = some (v', h') ∧ Hs h0 (LsC 14 v' rs :: L) h' := by
  obtain ⟨n, rfl⟩ : ∃ k, n = k + 1 := ⟨n - 1, by omega⟩
  suffices hh : W.Spec env sums (n + 1) 67 [v] h (fun v' h' => Hs h0 (LsC 14 v' rs :: L) h') by
    obtain ⟨vo, h', e, q⟩ := hh; exact ⟨vo, h', e, q⟩
  refine spec_trN [.v v] rfl ft67 (by kernel_rfl) (tn67 ..) ?_
  by_cases hv0 : v = .nils
  · have := hz hv0
    subst this hv0
    simp (disch := (first | omega | assumption | rfl | (simp only [hn_new, hn_put, skip_n]; omega))) only [go_sem, hk, isNil]
    exact k.nil 14
  · have hk' : binop env .eql 75 v .nils = some (.bool false) := by
      rw [hk]; cases v <;> first | rfl | exact absurd rfl hv0
    have kn : Keep h (h.new (.rows 14 [] false none none)) [] := (Keep.refl h _).new _
    obtain ⟨v', h', a1, a2, a3, _⟩ := (k.more kn).clone (v := .sl h.n 0 0 0) (es := 14) (by omega) 136 (.inr ⟨h.n, rfl, by rw [hn_new]; omega⟩) (SlR.new hv hb _) (by omega) (by omega)
    simp (disch := (first | omega | assumption | rfl | (simp only [hn_new, hn_put, skip_n]; omega))) only [go_sem, hk', a1]
    exact a2
theorem hrecords (hn : 2 ≤ n) (k : Hs h0 (HiC r v E ls :: LsC 14 v rs :: L) h) (h1 : rs.length ≤ 1000) :
    ∃ v' h', callX env sums n 31 [.ptr r 0] h = some (v', h') ∧ Hs h0 (LsC 14 v' rs :: HiC r v E ls :: LsC 14 v rs :: L) h' := by
  obtain ⟨n, rfl⟩ : ∃ k, n = k + 1 := ⟨n - 1, by omega⟩
  suffices hh : W.Spec env sums (n + 1) 31 [.ptr r 0] h (fun v' h' => Hs h0 (LsC 14 v' rs :: HiC r v E ls :: LsC 14 v rs :: L) h') by
    obtain ⟨vo, h', e, q⟩ := hh; exact ⟨vo, h', e, q⟩
  have g := k.get
  obtain ⟨S, q, _⟩ := k.at2.read
  obtain ⟨q1, q2⟩ := eqn75 q.1
  refine spec_trN [.ptr r 0] rfl ft31 (by kernel_rfl) (tn31 ..) ?_
  simp (disch := (first | omega | assumption | rfl | (simp only [hn_new, hn_put, skip_n]; omega))) only [go_sem, hnone (n := n) (by omega) k, g, hi_1]
  refine on2_ex2 (clone67 (by omega) k k.at2.sl k.at2.blt h1 q1 q2) fun v' h' k' => ?_
  exact k'

/-- an act's cells -/
noncomputable def shH : List Sh := match shapeOf Try.prog 9 65 with
  | some [.sl _ q] => q
  | _ => []
theorem shape65 : shapeOf Try.prog 9 65 = some [.sl 13 shH] := by kernel_rfl
theorem shlen : shH.length = 13 := by kernel_rfl
abbrev AK : List FK := [.b, .i, .i, .i, .s, .s, .i, .i, .i, .i, .s, .i, .i]
theorem shfit : shFit AK shH = true := by kernel_rfl
theorem act_fits {x : List AV} (k : ShL h shH x) : Fits AK x := by
  have := fits_sh k shfit
  have hl : x.length = 13 := by rw [ShL.length k, shlen]
  rwa [List.take_of_length_le (by simp; omega)] at this
theorem str_of {ks : List FK} {l : List AV} (k : Fits ks l) (j : Nat) (hj : ks[j]? = some .s) : ∃ s, nth l j = some (.str s) := by
  obtain ⟨v, e, s, rfl⟩ := fits_nth k hj
  exact ⟨s, e⟩
theorem bool_of {ks : List FK} {l : List AV} (k : Fits ks l) (j : Nat) (hj : ks[j]? = some .b) : ∃ s, nth l j = some (.bool s) := by
  obtain ⟨v, e, s, rfl⟩ := fits_nth k hj
  exact ⟨s, e⟩
theorem great26 {a : AV} {xs : List (List AV)} (hn : xs.length + 2 ≤ n) (hsl : SlR h 13 a xs) (hrow : ∀ r ∈ xs, Fits AK r) (hlen : xs.length ≤ 9223372036854775807) (most : Int) :
    ∃ b, callX env sums n 26 [a, .int .i64 most] h = some (.bool b, h) ∧ (b = false → (xs.length : Int) ≤ most) := by
  obtain ⟨n, rfl⟩ : ∃ k, n = k + 1 := ⟨n - 1, by omega⟩
  suffices hh : W.Spec env sums (n + 1) 26 [a, .int .i64 most] h (fun v h' => ∃ b, v = .bool b ∧ h' = h ∧ (b = false → (xs.length : Int) ≤ most)) by
    obtain ⟨v, h', e, b, rfl, rfl, k⟩ := hh
    exact ⟨b, e, k⟩
  refine spec_trN [.v a, .int .i64 most] rfl ft26 (by kernel_rfl) (tn26 ..) ?_
  simp (disch := (first | omega | assumption | rfl | (simp only [hn_new, hn_put, skip_n]; omega))) only [go_sem]
  refine ⟨fun l m h1 => ∃ i : Nat, l = [.int .i64 i] ∧ m = xs.length - i ∧ i ≤ xs.length ∧ h1 = h, ⟨xs.length, by omega, 0, rfl, by omega, by omega, rfl⟩, ?_⟩
  intro n2 m3 h4 ⟨i, e, hm, hi, hh⟩
  cases e; subst hm hh
  by_cases hlt : (i : Int) < xs.length
  · obtain ⟨r, hr⟩ : ∃ r, xs[i]? = some r := ⟨xs[i], List.getElem?_eq_getElem (by omega)⟩
    have hsh := hrow r (List.mem_of_getElem? hr)
    obtain ⟨b, o, e1, e2, e3, _⟩ := hsl.idx hr
    obtain ⟨s1, f1⟩ := str_of hsh 4 rfl
    obtain ⟨s2, f2⟩ := str_of hsh 5 rfl
    obtain ⟨s3, f3⟩ := str_of hsh 10 rfl
    have g1 : cellG (o + 3 + 1) (h4.get b) = some (.str s1) := by have := e3 4 (by omega); rw [cellQ_some _ _ _ (by omega), f1] at this; exact this
    have g2 : cellG (o + 3 + 2) (h4.get b) = some (.str s2) := by have := e3 5 (by omega); rw [cellQ_some _ _ _ (by omega), f2] at this; exact this
    have g3 : cellG (o + 7 + 2 + 1) (h4.get b) = some (.str s3) := by have := e3 10 (by omega); rw [cellQ_some _ _ _ (by omega), f3] at this; exact this
    have yes : ∃ b, AV.bool true = .bool b ∧ h4 = h4 ∧ (b = false → (xs.length : Int) ≤ most) := ⟨true, rfl, rfl, fun e => by cases e⟩
    have more : nxtN (fun l m h1 => ∃ i : Nat, l = [.int .i64 i] ∧ m = xs.length - i ∧ i ≤ xs.length ∧ h1 = h4) (xs.length - i) [.int .i64 ((i : Int) + 1)] h4 := ⟨xs.length - (i + 1), by omega, i + 1, by simp, rfl, by omega, rfl⟩
    repeat' first | exact yes | exact ⟨true, rfl, fun e => by cases e⟩ | exact more | refine ask_of ?_ ?_ | simp (disch := (first | omega | assumption | rfl | (simp only [hn_new, hn_put, skip_n]; omega))) only [go_sem, hsl.len, e1, g1, g2, g3]
  · simp (disch := (first | omega | assumption | rfl | (simp only [hn_new, hn_put, skip_n]; omega))) only [go_sem, hsl.len]
    exact ⟨_, rfl, fun e => by simp at e; omega⟩
end
end Go.Proofs.Ytpfgbnmeaalpdaa
