/-
  Classes: a request is pushed; the next one is taken out.
-/
import Derived.Test.YtdncenepmkbolaaSchedB
namespace Go.Proofs.Ytdncenepmkbolaa
open Go Go.Abs Go.Abs.S Go.Abs.W
set_option maxRecDepth 10000
set_option maxHeartbeats 1000000

def opOf (a : AF) : List AV := (a.1.drop 7).take 4
theorem fr_op (f : Fr) : takeN 4 (dropN 7 f.cs) = some (opOf (af f)) := by
  rw [takeN_some (by rw [f.len]; omega)]
  unfold opOf af Fr.cs
  rw [List.drop_append_of_le_length (by rw [f.hp]; omega), List.take_append_of_le_length (by simp [f.hp])]
theorem fr_nth (f : Fr) {j : Nat} (hj : j < 24) : nth f.cs j = nth (af f).1 j := by
  unfold af Fr.cs
  rw [nth_eq, nth_eq, List.getElem?_append_left (by rw [f.hp]; exact hj)]
section
variable {h0 h : Go.Abs.H} {X : Ch} {L : List Ch} {n s N i : Nat} {v : AV} {cls : List Cl} {turn : Int} {stale : Bool} {c c' : Cl}
theorem sl_in (k : Hs h0 (X :: SL s v N cls turn stale L) h) : Hs h0 (SL s v N cls turn stale (X :: L)) h :=
  k.perm ((List.Perm.swap _ _ _).trans (((List.Perm.swap _ _ _).trans (List.perm_middle.symm.cons _)).cons _))
theorem sl_out (k : Hs h0 (SL s v N cls turn stale (X :: L)) h) : Hs h0 (X :: SL s v N cls turn stale L) h :=
  k.perm ((List.Perm.swap _ _ _).trans (((List.Perm.swap _ _ _).trans (List.perm_middle.symm.cons _)).cons _)).symm
theorem set_self {cls : List Cl} (hi : cls[i]? = some c) : cls.set i c = cls := by
  have hl := (List.getElem?_eq_some_iff.1 hi).1
  rw [List.getElem?_eq_getElem hl] at hi; cases hi
  exact List.set_getElem_self hl
theorem ring_back {A B : Ch} (hi : cls[i]? = some c) (k : Hs h0 (RingC c.r N c.qs :: A :: B :: (rings N (cls.take i ++ cls.drop (i + 1)) ++ L)) h) : Hs h0 (A :: B :: (rings N cls ++ L)) h := by
  have := ring_in (c' := c) (List.getElem?_eq_some_iff.1 hi).1 k
  rwa [set_self hi] at this
theorem rings_same (hi : cls[i]? = some c) (h1 : c'.r = c.r) (h2 : c'.qs = c.qs) : rings N (cls.set i c') = rings N cls := by
  have hl := (List.getElem?_eq_some_iff.1 hi).1
  unfold rings
  rw [List.map_set, h1, h2]
  have : (cls.map fun c => RingC c.r N c.qs)[i]? = some (RingC c.r N c.qs) := by rw [List.getElem?_map, hi]; rfl
  rw [List.getElem?_eq_getElem (by simpa using hl)] at this
  have e := Option.some.inj this
  rw [← e, List.set_getElem_self]
/-- a class's credit is written -/
theorem cr_write (k : Hs h0 (SL s v N cls turn stale L) h) (hi : cls[i]? = some c) (x : Int) : ∃ b o h', idxS 4 v (i : Int) = some (b, o) ∧ storeB h b (o + 2) [.int .i64 x] (h.get b) = some h' ∧ Hs h0 (SL s v N (cls.set i { c with cr := x }) turn stale L) h' := by
  obtain ⟨b, o, h', e1, e2, k2, _⟩ := k.at2.set (rows_get hi) c.rlen (c := 2) (cs := [.int .i64 x]) (by simp) (by omega)
  refine ⟨b, o, h', e1, e2, ?_⟩
  have er : (cls.map Cl.row).set i (c.row.take 2 ++ [.int .i64 x] ++ c.row.drop (2 + [AV.int .i64 x].length)) = (cls.set i { c with cr := x }).map Cl.row := rows_set (c' := { c with cr := x })
  rw [er] at k2
  have := k2.at2
  rwa [← rings_same (c' := { c with cr := x }) (N := N) hi rfl rfl] at this
theorem sv_write (k : Hs h0 (SL s v N cls turn stale L) h) (hi : cls[i]? = some c) (x : Int) : ∃ b o h', idxS 4 v (i : Int) = some (b, o) ∧ storeB h b (o + 3) [.int .i64 x] (h.get b) = some h' ∧ Hs h0 (SL s v N (cls.set i { c with sv := x }) turn stale L) h' := by
  obtain ⟨b, o, h', e1, e2, k2, _⟩ := k.at2.set (rows_get hi) c.rlen (c := 3) (cs := [.int .i64 x]) (by simp) (by omega)
  refine ⟨b, o, h', e1, e2, ?_⟩
  have er : (cls.map Cl.row).set i (c.row.take 3 ++ [.int .i64 x] ++ c.row.drop (3 + [AV.int .i64 x].length)) = (cls.set i { c with sv := x }).map Cl.row := rows_set (c' := { c with sv := x })
  rw [er] at k2
  have := k2.at2
  rwa [← rings_same (c' := { c with sv := x }) (N := N) hi rfl rfl] at this
/-- a ring's change -/
theorem rings_rows (hi : cls[i]? = some c) (h1 : c'.row = c.row) : (cls.set i c').map Cl.row = cls.map Cl.row := by
  have hl := (List.getElem?_eq_some_iff.1 hi).1
  rw [List.map_set, h1]
  have := rows_get hi
  rw [List.getElem?_eq_getElem (by simpa using hl)] at this
  have e := Option.some.inj this
  rw [← e, List.set_getElem_self]
theorem ring_new_in {qs : List AF} (hi : cls[i]? = some c) (k : Hs h0 (RingC c.r N qs :: ScC s v turn stale :: LsC 4 v (cls.map Cl.row) :: (rings N (cls.take i ++ cls.drop (i + 1)) ++ L)) h) : Hs h0 (SL s v N (cls.set i { c with qs := qs }) turn stale L) h := by
  have := ring_in (c' := { c with qs := qs }) (List.getElem?_eq_some_iff.1 hi).1 k
  rwa [← rings_rows (c' := { c with qs := qs }) hi rfl] at this

theorem s_push (hn : 6 ≤ n) (k : Hs h0 (SL s v N cls turn stale L) h) (hi : cls[i]? = some c) (f : Fr) (hf : nth (af f).1 5 = some (.int .i64 i)) (ho : opOk (opOf (af f))) :
    ∃ h', callX env sums n 31 [.ptr s 0, .agg f.cs] h = some (.int .i64 (if c.qs.length < N then 0 else 60), h') ∧ Hs h0 (SL s v N (if c.qs.length < N then cls.set i { c with qs := c.qs ++ [af f] } else cls) turn stale L) h' := by
  obtain ⟨n, rfl⟩ : ∃ k, n = k + 1 := ⟨n - 1, by omega⟩
  have hil := (List.getElem?_eq_some_iff.1 hi).1
  have hc : cls ≠ [] := by rintro rfl; simp at hil
  suffices hh : W.Spec env sums (n + 1) 31 [.ptr s 0, .agg f.cs] h (fun a h' => a = .int .i64 (if c.qs.length < N then 0 else 60) ∧ Hs h0 (SL s v N (if c.qs.length < N then cls.set i { c with qs := c.qs ++ [af f] } else cls) turn stale L) h') by
    obtain ⟨a, h', e, rfl, q⟩ := hh; exact ⟨h', e, q⟩
  have k1 := sl_in (k.new (.rows 29 [f.cs] false none none))
  have g1 := (sl_out k1).get
  have f5 : nth f.cs 5 = some (.int .i64 i) := by rw [fr_nth f (by omega), hf]
  have hh := s_has (n := n) (by omega) k1 hc (i : Int)
  rw [decide_eq_true (by omega)] at hh
  refine spec_trN [.ptr s 0, .agg f.cs] rfl ft31 (by kernel_rfl) (tn31 ..) ?_
  simp (disch := (first | omega | assumption | rfl | (simp only [hn_new, hn_put, skip_n]; omega))) only [go_sem, f.len, s_none (n := n) (by omega) k1 hc, f5, hh, fr_op f]
  refine on2_ex (check_yes (by omega) ho) fun h11 kp => ?_
  have k2 := (k1.more kp).more ((Keep.refl _ _).skip 13)
  have g2 := (sl_out k2).get
  have gs := k2.get
  rw [skip_get] at g2 gs
  obtain ⟨b, o, e1, _, e3, _⟩ := k2.at2.sl.idx (rows_get hi)
  have g0 : cellG o ((h11.skip 13).get b) = some (.ptr c.r 0) := by have := e3 0 (by omega); rw [cellQ_some _ _ _ (by omega)] at this; exact this
  rw [skip_get] at g0
  simp (disch := (first | omega | assumption | rfl | (simp only [hn_new, hn_put, skip_n]; omega))) only [go_sem, gs, g2, f5, e1, g0, f.len]
  by_cases hq : c.qs.length < N
  · refine on2_ex (ring_push (by omega) (ring_out hi k2) hq f) fun h22 k3 => ?_
    simp (disch := (first | omega | assumption | rfl | (simp only [hn_new, hn_put, skip_n]; omega))) only [go_sem]
    simp only [if_pos hq]
    exact ⟨trivial, (sl_out (ring_new_in hi k3)).drop⟩
  · refine on2_ex (ring_push_no (by omega) (ring_out hi k2) (by omega) f) fun h22 k3 => ?_
    simp (disch := (first | omega | assumption | rfl | (simp only [hn_new, hn_put, skip_n]; omega))) only [go_sem]
    simp only [if_neg hq]
    exact ⟨trivial, (sl_out (ring_back hi k3)).drop⟩

/-! the next one -/
abbrev most : Int := 4611686018427387904
/-- what holds of classes -/
structure ClOk (N : Nat) (c : Cl) : Prop where
  q : 96 ≤ c.q ∧ c.q ≤ 65536
  cr : 0 ≤ c.cr
  sv : 0 ≤ c.sv ∧ c.sv ≤ most
  ops : ∀ a ∈ c.qs, opOk (opOf a)
  len : c.qs.length ≤ N
structure ScOk (N : Nat) (cls : List Cl) (turn : Nat) (stale : Bool) : Prop where
  ne : cls ≠ []
  le : cls.length ≤ 4
  tlt : turn < cls.length
  ok : ∀ c ∈ cls, ClOk N c
  cr : ∀ (i : Nat) (c : Cl), cls[i]? = some c → c.cr ≤ 95 + (if i = turn ∧ stale = true then c.q else 0)
/-- how the next one is taken out -/
inductive PopR : List Cl → Nat → Bool → AF → Nat → List Cl → Nat → Bool → Prop where
  | skip {cls : List Cl} {t : Nat} {st : Bool} {c : Cl} {a : AF} {i : Nat} {cls' : List Cl} {t' : Nat} {st' : Bool} (h1 : cls[t]? = some c) (h2 : c.qs = []) (k : PopR (cls.set t { c with cr := 0 }) (nextT t cls.length) false a i cls' t' st') : PopR cls t st a i cls' t' st'
  | pass {cls : List Cl} {t : Nat} {c : Cl} {b a : AF} {rest : List AF} {i : Nat} {cls' : List Cl} {t' : Nat} {st' : Bool} (h1 : cls[t]? = some c) (h2 : c.qs = b :: rest) (h3 : c.cr < costO (opOf b)) (k : PopR cls (nextT t cls.length) false a i cls' t' st') : PopR cls t true a i cls' t' st'
  | take {cls : List Cl} {t : Nat} {st : Bool} {c : Cl} {a : AF} {rest : List AF} (h1 : cls[t]? = some c) (h2 : c.qs = a :: rest) (h3 : costO (opOf a) ≤ c.cr + (if st then 0 else c.q)) :
      PopR cls t st a t (cls.set t { c with qs := rest, cr := if rest = [] then 0 else c.cr + (if st then 0 else c.q) - costO (opOf a), sv := min (c.sv + costO (opOf a)) most }) (if rest = [] then nextT t cls.length else t) (decide (rest ≠ []))

/-- a state stays well when a class is written -/
theorem set_get {c' : Cl} {j : Nat} {d : Cl} (hl : i < cls.length) (h : (cls.set i c')[j]? = some d) : (j = i ∧ d = c') ∨ (j ≠ i ∧ cls[j]? = some d) := by
  by_cases e : j = i
  · subst e; rw [List.getElem?_set_self hl] at h; cases h; exact .inl ⟨rfl, rfl⟩
  · rw [List.getElem?_set_ne (fun h => e h.symm)] at h; exact .inr ⟨e, h⟩
theorem next_lt {t m : Nat} (h : 0 < m) : nextT t m < m := Nat.mod_lt _ h
theorem ScOk.skip {t : Nat} (k : ScOk N cls t stale) (hi : cls[t]? = some c) : ScOk N (cls.set t { c with cr := 0 }) (nextT t cls.length) false := by
  have hl := k.tlt
  have hc := k.ok c (List.mem_of_getElem? hi)
  refine ⟨by intro e; rw [List.set_eq_nil_iff] at e; exact k.ne e, by simpa using k.le, by rw [List.length_set]; exact next_lt (by omega), fun d hd => ?_, fun j d hd => ?_⟩
  · rcases List.mem_or_eq_of_mem_set hd with hd | rfl
    · exact k.ok d hd
    · exact ⟨hc.q, by simp, hc.sv, hc.ops, hc.len⟩
  · rcases set_get hl hd with ⟨rfl, rfl⟩ | ⟨h1, h2⟩
    · simp
    · have := k.cr j d h2
      rw [if_neg (fun e => h1 e.1)] at this
      simpa using this
theorem ScOk.pass {t : Nat} {b : AF} {rest : List AF} (k : ScOk N cls t true) (hi : cls[t]? = some c) (hq : c.qs = b :: rest) (hcr : c.cr < costO (opOf b)) : ScOk N cls (nextT t cls.length) false := by
  have hl := k.tlt
  have hc := k.ok c (List.mem_of_getElem? hi)
  have hb := cost_range (hc.ops b (by rw [hq]; simp))
  refine ⟨k.ne, k.le, next_lt (by omega), k.ok, fun j d hd => ?_⟩
  by_cases e : j = t
  · subst e; rw [hi] at hd; cases hd; simp; omega
  · have := k.cr j d hd
    rw [if_neg (fun h => e h.1)] at this
    simpa using this
theorem ScOk.take {t : Nat} {a : AF} {rest : List AF} (k : ScOk N cls t stale) (hi : cls[t]? = some c) (hq : c.qs = a :: rest) (hcr : costO (opOf a) ≤ c.cr + (if stale then 0 else c.q)) :
    ScOk N (cls.set t { c with qs := rest, cr := if rest = [] then 0 else c.cr + (if stale then 0 else c.q) - costO (opOf a), sv := min (c.sv + costO (opOf a)) most }) (if rest = [] then nextT t cls.length else t) (decide (rest ≠ [])) := by
  have hl := k.tlt
  have hc := k.ok c (List.mem_of_getElem? hi)
  have hb := cost_range (hc.ops a (by rw [hq]; simp))
  have hcr0 := k.cr t c hi
  have hcc := hc.cr
  have hcq := hc.q
  have hsv := hc.sv
  have hln := hc.len
  rw [hq] at hln
  refine ⟨by intro e; rw [List.set_eq_nil_iff] at e; exact k.ne e, by simpa using k.le, ?_, fun d hd => ?_, fun j d hd => ?_⟩
  · rw [List.length_set]; split
    · exact next_lt (by omega)
    · exact hl
  · rcases List.mem_or_eq_of_mem_set hd with hd | rfl
    · exact k.ok d hd
    · refine ⟨hc.q, ?_, ?_, fun x hx => hc.ops x (by rw [hq]; simp [hx]), by simp at hln ⊢; omega⟩
      · show 0 ≤ (if rest = [] then 0 else _)
        split <;> omega
      · show 0 ≤ min _ most ∧ min _ most ≤ most
        simp only [most] at hsv ⊢; omega
  · rcases set_get hl hd with ⟨rfl, rfl⟩ | ⟨h1, h2⟩
    · by_cases hr : rest = []
      · simp [hr]
      · simp only [hr, if_false, ne_eq, not_false_eq_true, decide_true, and_self, if_true]
        cases stale
        · simp at hcr0 ⊢; omega
        · simp at hcr0 ⊢; omega
    · have := k.cr j d h2
      rw [if_neg (fun e => h1 e.1)] at this
      have hdq := (k.ok d (List.mem_of_getElem? h2)).q
      split <;> omega
end
end Go.Proofs.Ytdncenepmkbolaa
