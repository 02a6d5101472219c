/-
  'ReadsOnce': what is told, one by one.
-/
import Derived.Test.YtpfgbnmeaalpdaaReadD
namespace Go.Proofs.Ytpfgbnmeaalpdaa
open Go Go.Abs Go.Abs.S Go.Abs.W
set_option maxRecDepth 10000
set_option maxHeartbeats 1000000

noncomputable abbrev FrI (a tv vo : AV) (cap puts out : Int) (r : Nat) (i k : Int) : T SV := frS [(1, .v a), (5, .int .i64 cap), (6, .ptr r 0), (8, .v tv), (9, .int .i64 puts), (10, .int .i64 out), (11, .int .i64 i), (12, .v vo), (16, .int .i64 k)]

/-- the told ones' block -/
structure Told (h : Go.Abs.H) (tb L : Nat) (told : List (List AV)) : Prop where
  at' : h.get tb = some (.rows 1 told false none none)
  len : told.length = L
  wide : ∀ x ∈ told, x.length = 1
  lt : tb < h.n

/-- while the told ones are gone through -/
structure JK (h0 : Go.Abs.H) (r tb L : Nat) (cap puts : Int) (vo vs : AV) (all stay : List (List AV)) (So Ss : List Nat) (k : Nat) (h : Go.Abs.H) : Prop where
  ext : HExt h0 h
  r0 : h0.n ≤ r
  t0 : h0.n ≤ tb
  tr : tb ≠ r
  rd : RdAt h r cap puts vs stay Ss
  lst : Lst h 34 vo all So
  ts : tb ∉ Ss
  to : tb ∉ So
  s0 : ∀ x ∈ Ss, h0.n ≤ x
  o0 : ∀ x ∈ So, h0.n ≤ x
  told : ∃ told, Told h tb L told ∧ Part puts told (all.drop k) stay ∧ Fresh puts told
  good : AllGood puts all
  rise : Rise all

theorem oneK {F : Nat} {Q : Ex → T SV → Go.Abs.H → Prop} {h0 h : Go.Abs.H} {r tb L : Nat} {cap puts out i : Int} {a vo vs : AV} {all stay : List (List AV)} {So Ss : List Nat} {k c : Nat} {x : List AV}
    (j : JK h0 r tb L cap puts vo vs all stay So Ss k h) (hx : all[k]? = some x) (ho : 0 ≤ out ∧ out ≤ 1000) (hk : k ≤ 1000)
    (kk : ∀ h' (u : Int), u = out + 1 → JK h0 r tb L cap puts vo vs all stay So Ss (k + 1) h' → Q .norm (FrI a (.sl tb 0 L c) vo cap puts u r i k) h') :
    EvX env (callX env sums F) F (sub [1, 1, 1, 1, 1, 1, 1, 0, 1, 0, 0, 1, 0, 0, 1, 1, 0, 1, 0, 0, 1, 0, 0] (bodyOf Try.f3)) (FrI a (.sl tb 0 L c) vo cap puts out r i k) h Q := by
  obtain ⟨told, ht, hp, hfr⟩ := j.told
  have hkl : k < all.length := (List.getElem?_eq_some_iff.1 hx).1
  have hd : all.drop k = x :: all.drop (k + 1) := by
    rw [List.drop_eq_getElem_cons hkl]; congr 1
    rw [List.getElem?_eq_getElem hkl] at hx; cases hx; rfl
  rw [hd] at hp
  have g := hp.g1 x List.mem_cons_self
  have glo := g.lo
  have ghi := g.hi
  obtain ⟨b, o, e1, _, e3, _⟩ := j.lst.sl.idx hx
  obtain ⟨m, hm⟩ : ∃ m : Nat, idOf x = m := ⟨(idOf x).toNat, by omega⟩
  have g0 : cellG o (h.get b) = some (.int .i64 m) := by have := e3 0 (by omega); rw [cellQ_some _ _ _ (by omega), g.a0, hm] at this; exact this
  have g4 : cellG (o + 1 + 3) (h.get b) = some (.int .i64 m) := by have := e3 4 (by omega); rw [cellQ_some _ _ _ (by omega), g.a4, hm] at this; exact this
  have g33 : cellG (o + 30 + 3) (h.get b) = some (.int .i64 m) := by have := e3 33 (by omega); rw [cellQ_some _ _ _ (by omega), g.a33, hm] at this; exact this
  have hmt : (idOf x).toNat = m := by omega
  have hu := hp.u1 x List.mem_cons_self
  rw [hmt] at hu
  have hmL : m < told.length := (List.getElem?_eq_some_iff.1 hu).1
  have hlen := ht.len
  have et : idxS 1 (.sl tb 0 L c) (m : Int) = some (tb, m * 1) := by rw [idx_sl (by omega) (by omega)]; rfl
  have ct : cellG (m * 1) (some (.rows 1 told false none none)) = some (.bool false) := by
    rw [cellG_rows, Nat.mul_one, Nat.mod_one, Nat.div_one, nth_eq, hu]; rfl
  have st : storeG (m * 1) [.bool true] 1 told = some (told.set m [.bool true]) := by
    have := (storeG_row (es := 1) (k := m) (rs := told) (cs := [.bool true]) hmL ht.wide rfl (by omega)); exact this
  have hta := ht.at'
  refine ev_tr (tr3n ..) ?_
  have kt : Keep h (h.put tb (.rows 1 (told.set m [.bool true]) false none none)) [tb] := (Keep.refl h _).put (.inr (by simp)) _
  have fin : JK h0 r tb L cap puts vo vs all stay So Ss (k + 1) (h.put tb (.rows 1 (told.set m [.bool true]) false none none)) := by
    refine ⟨W.HExt.keep j.ext kt (by simp; exact j.t0), j.r0, j.t0, j.tr, j.rd.keep kt (by simp; exact fun e => j.tr e.symm) (fun y hy e => by simp at e; subst e; exact j.ts hy), j.lst.keep kt (fun y hy e => by simp at e; subst e; exact j.to hy), j.ts, j.to, j.s0, j.o0, ⟨told.set m [.bool true], ⟨get_put_same _ _ _, by simp [hlen], fun y hy => (by rcases List.mem_or_eq_of_mem_set hy with hy | rfl; exact ht.wide y hy; rfl), by rw [hn_put]; exact ht.lt⟩, ?_, hfr.set (by omega) _⟩, j.good, j.rise⟩
    have := hp.tell
    rw [hmt] at this
    exact this
  by_cases hk0 : k = 0
  · subst hk0
    simp (disch := (first | omega | assumption | rfl | (simp only [hn_new, hn_put, skip_n]; omega))) only [go_sem, e1, g0, g4, g33, et, ct, st, hta]
    exact kk _ _ rfl fin
  · have hk1 : k - 1 < all.length := by omega
    obtain ⟨y, hy⟩ : ∃ y, all[k - 1]? = some y := ⟨all[k - 1], List.getElem?_eq_getElem hk1⟩
    obtain ⟨b', o', q1, _, q3, _⟩ := j.lst.sl.idx hy
    have gy := j.good y (List.mem_of_getElem? hy)
    have q0 : cellG o' (h.get b') = some (.int .i64 (idOf y)) := by have := q3 0 (by omega); rw [cellQ_some _ _ _ (by omega), gy.a0] at this; exact this
    have hlt : idOf y < idOf x := by
      have := List.pairwise_iff_getElem.1 j.rise (k - 1) k hk1 hkl (by omega)
      rw [List.getElem?_eq_getElem hk1] at hy; cases hy
      rw [List.getElem?_eq_getElem hkl] at hx; cases hx
      exact this
    have q1' : idxS 34 vo ((k : Int) - 1) = some (b', o') := by rw [← q1]; congr 1; omega
    simp (disch := (first | omega | assumption | rfl | (simp only [hn_new, hn_put, skip_n]; omega))) only [go_sem, e1, g0, g4, g33, et, ct, st, hta, q1', q0]
    exact kk _ _ rfl fin
end Go.Proofs.Ytpfgbnmeaalpdaa
