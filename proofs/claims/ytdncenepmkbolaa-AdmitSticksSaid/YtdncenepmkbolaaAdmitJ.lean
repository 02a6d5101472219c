/-
  'AdmitTimely': the law's own list, and what it has to do with what waits.
-/
import Derived.Test.YtdncenepmkbolaaAdmitI
namespace Go.Proofs.Ytdncenepmkbolaa
open Go Go.Abs Go.Abs.S Go.Abs.W
set_option maxRecDepth 10000
set_option maxHeartbeats 4000000
abbrev Tri := Int × Int × Int
def trow (t : Tri) : List AV := [.int .i64 t.1, .int .i64 t.2.1, .int .i64 t.2.2]
def trows (T : List Tri) : List (List AV) := T.map trow
theorem flat76 : flatIs (env.tt.get 76) [.i, .i, .i] = true := by kernel_rfl
theorem fits_tri (t : Tri) : Fits [.i, .i, .i] (trow t) := ⟨_, _, rfl, ⟨_, rfl⟩, _, _, rfl, ⟨_, rfl⟩, _, _, rfl, ⟨_, rfl⟩, rfl⟩
theorem trow_inj {s t : Tri} (h : trow s = trow t) : s = t := by
  obtain ⟨a, b, c⟩ := s
  obtain ⟨d, e, f⟩ := t
  simp [trow] at h
  simp [h]
section
variable {h h0 : Go.Abs.H} {n : Nat} {L : List Ch} {v : AV} {T : List Tri}
theorem trows_get {i : Nat} {t : Tri} (hi : T[i]? = some t) : (trows T)[i]? = some (trow t) := by simp [trows, hi]
theorem trows_len (T : List Tri) : (trows T).length = T.length := by simp [trows]
/-- all but one -/
theorem left_ok (hn : 200 ≤ n) (k : Hs h0 (LsC 3 v (trows T) :: L) h) (hl : T.length ≤ 100) (x : Tri) : ∃ v' h', callX env sums n 56 [v, .int .i64 x.1, .int .i64 x.2.1, .int .i64 x.2.2] h = some (v', h') ∧ Hs h0 (LsC 3 v' (trows (T.filter fun t => decide (t ≠ x))) :: LsC 3 v (trows T) :: L) h' := by
  obtain ⟨n, rfl⟩ : ∃ k, n = k + 1 := ⟨n - 1, by omega⟩
  suffices hh : W.Spec env sums (n + 1) 56 [v, .int .i64 x.1, .int .i64 x.2.1, .int .i64 x.2.2] h (fun v' h' => Hs h0 (LsC 3 v' (trows (T.filter fun t => decide (t ≠ x))) :: LsC 3 v (trows T) :: L) h') by
    obtain ⟨r, h', e, q⟩ := hh; exact ⟨r, h', e, q⟩
  have hvl : lenS v = some T.length := by have := k.sl.len; rwa [trows_len] at this
  refine spec_trN [.v v, .int .i64 x.1, .int .i64 x.2.1, .int .i64 x.2.2] rfl ft56 (by kernel_rfl) (tn56 ..) ?_
  refine ⟨fun l m H => ∃ (i : Nat) (w : AV), l = [w, .int .i64 i] ∧ m = T.length - i ∧ i ≤ T.length ∧ Hs h0 (LsC 3 w (trows ((T.take i).filter fun t => decide (t ≠ x))) :: LsC 3 v (trows T) :: L) H, ⟨T.length, by omega, 0, .nils, rfl, by omega, by omega, k.nil 3⟩, ?_⟩
  intro a2 n3 m4 h5 ⟨i, w, e, hm, hi, k5⟩
  cases e; subst hm
  by_cases hlt : (i : Int) < T.length
  rotate_left
  · have hie : i = T.length := by omega
    subst hie
    simp (disch := (first | omega | assumption | rfl | (simp only [hn_new, hn_put, skip_n]; omega))) only [go_sem, hvl]
    rw [List.take_length] at k5
    exact k5
  obtain ⟨t, ht⟩ : ∃ t, T[i]? = some t := ⟨T[i], List.getElem?_eq_getElem (by omega)⟩
  obtain ⟨b, o, p1, p2, _, _⟩ := k5.at2.sl.idx (trows_get ht)
  have htk : T.take (i + 1) = T.take i ++ [t] := by rw [List.take_add_one, ht]; rfl
  obtain ⟨r, r1, r2, r3⟩ := eqT_fit flat76 (fits_tri t) (fits_tri x)
  have hfl := List.length_filter_le (fun t => decide (t ≠ x)) (T.take i)
  have hx : trow x = [.int .i64 x.1, .int .i64 x.2.1, .int .i64 x.2.2] := rfl
  rw [hx] at r2
  by_cases htx : t = x
  · have hr : r = true := r3.2 (by rw [htx])
    subst hr
    simp (disch := (first | omega | assumption | rfl | (simp only [hn_new, hn_put, skip_n]; omega))) only [go_sem, hvl, p1, p2, r2]
    refine ⟨T.length - (i + 1), by omega, i + 1, a2, by simp, rfl, by omega, ?_⟩
    rw [htk, List.filter_append]
    have : [t].filter (fun t => decide (t ≠ x)) = [] := by simp [htx]
    rw [this, List.append_nil]
    exact k5
  · have hr : r = false := by
      cases r with
      | false => rfl
      | true => exact absurd (trow_inj (r3.1 rfl)) htx
    subst hr
    have kn := k5.new (.rows 3 [trow t] false none none)
    rw [List.length_take] at hfl
    obtain ⟨w', h18, q1, q2, q3⟩ := kn.at2.app (by omega) 24 (rows_one kn.get (by omega) 1) (by rw [trows_len]; simp only [List.length_nil]; omega) (by rw [trows_len]; simp only [List.length_nil]; omega)
    simp (disch := (first | omega | assumption | rfl | (simp only [hn_new, hn_put, skip_n]; omega))) only [go_sem, hvl, p1, p2, r2, show (trow t).length = 3 from rfl, q1]
    refine ⟨T.length - (i + 1), by omega, i + 1, w', by simp, rfl, by omega, ?_⟩
    rw [htk, List.filter_append]
    have : [t].filter (fun t => decide (t ≠ x)) = [t] := by simp [htx]
    rw [this]
    have e : trows ((T.take i).filter (fun t => decide (t ≠ x)) ++ [t]) = trows ((T.take i).filter fun t => decide (t ≠ x)) ++ [trow t] := by simp [trows]
    rw [e]
    exact q2.at2.drop
end
/-! what waits, and the list -/
noncomputable def tri (a : AF) : Tri := (cI a.1 5, cI a.1 2, cI a.1 3)
structure TOk (cls : List Cl) (T : List Tri) (i : Int) : Prop where
  nd : T.Nodup
  cl : ∀ (k : Nat) (c : Cl), cls[k]? = some c → T.filter (fun t => decide (t.1 = (k : Int))) = c.qs.map tri
  rg : ∀ t ∈ T, 0 ≤ t.1 ∧ t.1 < cls.length
  up : ∀ t ∈ T, t.2.2 ≤ i
section
variable {cls cls' : List Cl} {T : List Tri} {cl i now : Int}
theorem TOk.mono {j : Int} (k : TOk cls T i) (h : i ≤ j) : TOk cls T j := ⟨k.nd, k.cl, k.rg, fun t ht => by have := k.up t ht; omega⟩
theorem CaOk.kls {j : Nat} {a : AF} (k : CaOk cl j a) : cI a.1 5 = j := by
  obtain ⟨d, e⟩ := k.ex
  rw [e]; rfl
theorem TOk.qs {qs : List Cl} (k : TOk cls T i) (e : qs.length = cls.length) (h : ∀ (k : Nat) (c : Cl), qs[k]? = some c → ∃ d, cls[k]? = some d ∧ d.qs = c.qs) : TOk qs T i :=
  ⟨k.nd, fun j c hc => by obtain ⟨d, hd, e⟩ := h j c hc; rw [← e]; exact k.cl j d hd, fun t ht => by rw [e]; exact k.rg t ht, k.up⟩
theorem TOk.push {j : Nat} {c : Cl} {a : AF} (k : TOk cls T i) (hc : cls[j]? = some c) (ha : tri a = ((j : Int), cI a.1 2, i + 1)) : TOk (cls.set j { c with qs := c.qs ++ [a] }) (T ++ [tri a]) (i + 1) := by
  have hl := (List.getElem?_eq_some_iff.1 hc).1
  refine ⟨?_, fun m d hd => ?_, fun t ht => ?_, fun t ht => ?_⟩
  · unfold List.Nodup
    rw [List.pairwise_append]
    refine ⟨k.nd, by simp, fun x hx y hy => ?_⟩
    rw [List.mem_singleton] at hy
    subst hy
    intro e
    have := k.up x hx
    rw [e, ha] at this
    simp only at this
    omega
  · rw [List.filter_append]
    rcases set_get hl hd with ⟨rfl, rfl⟩ | ⟨h1, h2⟩
    · rw [k.cl m c hc]
      have : [tri a].filter (fun t => decide (t.1 = (m : Int))) = [tri a] := by rw [ha]; simp
      rw [this]; simp
    · rw [k.cl m d h2]
      have : [tri a].filter (fun t => decide (t.1 = (m : Int))) = [] := by rw [ha]; simp; omega
      rw [this, List.append_nil]
  · rw [List.length_set]
    rcases List.mem_append.1 ht with ht | ht
    · exact k.rg t ht
    · rw [List.mem_singleton] at ht; subst ht; rw [ha]; simp only; omega
  · rcases List.mem_append.1 ht with ht | ht
    · have := k.up t ht; omega
    · rw [List.mem_singleton] at ht; subst ht; rw [ha]; exact Int.le_refl _
/-- what is gone is told once each -/
theorem TOk.gone_nd (k : TOk cls T i) (hca : CaAll cl cls) : ((expG now cls).map tri).Nodup := by
  unfold expG
  rw [List.map_flatten, List.map_map]
  unfold List.Nodup
  rw [List.pairwise_flatten]
  refine ⟨fun l hl => ?_, ?_⟩
  · rw [List.mem_map] at hl
    obtain ⟨c, hc, rfl⟩ := hl
    obtain ⟨j, hj, he⟩ := List.getElem_of_mem hc
    have := k.cl j c (by rw [List.getElem?_eq_getElem hj, he])
    have nd : (c.qs.map tri).Nodup := by rw [← this]; exact k.nd.filter _
    exact nd.sublist ((List.filter_sublist).map tri)
  · rw [List.pairwise_map, List.pairwise_iff_getElem]
    intro u w hu hw huw x hx y hy e
    subst e
    simp only [Function.comp, List.mem_map, List.mem_filter] at hx hy
    obtain ⟨a, ⟨ha, _⟩, rfl⟩ := hx
    obtain ⟨b, ⟨hb, _⟩, e⟩ := hy
    have h1 := (hca u _ (List.getElem?_eq_getElem hu) a ha).kls
    have h2 := (hca w _ (List.getElem?_eq_getElem hw) b hb).kls
    have := congrArg (·.1) e
    simp only [tri] at this
    omega
theorem gone_mem {a : AF} (h : a ∈ expG now cls) : ∃ (j : Nat) (c : Cl), cls[j]? = some c ∧ a ∈ c.qs ∧ late now a = true := by
  unfold expG at h
  rw [List.mem_flatten] at h
  obtain ⟨l, hl, ha⟩ := h
  rw [List.mem_map] at hl
  obtain ⟨c, hc, rfl⟩ := hl
  obtain ⟨j, hj, he⟩ := List.getElem_of_mem hc
  exact ⟨j, c, by rw [List.getElem?_eq_getElem hj, he], (List.mem_filter.1 ha).1, (List.mem_filter.1 ha).2⟩
theorem TOk.mem (k : TOk cls T i) {j : Nat} {c : Cl} {a : AF} (hc : cls[j]? = some c) (ha : a ∈ c.qs) : tri a ∈ T := by
  have : tri a ∈ c.qs.map tri := List.mem_map_of_mem ha
  rw [← k.cl j c hc] at this
  exact (List.mem_filter.1 this).1
/-- the list, without those that were told -/
noncomputable def TJ (T : List Tri) (A : List AF) (j : Nat) : List Tri := T.filter fun t => decide (t ∉ (A.take j).map tri)
theorem TJ_step {A : List AF} {j : Nat} {a : AF} (ha : A[j]? = some a) : TJ T A (j + 1) = (TJ T A j).filter fun t => decide (t ≠ tri a) := by
  unfold TJ
  rw [List.take_add_one, ha, List.filter_filter]
  congr 1
  funext t
  simp [Bool.and_comm, not_or]
theorem TJ_len (k : TOk cls T i) (hca : CaAll cl cls) {j : Nat} {a : AF} (ha : (expG now cls)[j]? = some a) : (TJ T (expG now cls) j).length = (TJ T (expG now cls) (j + 1)).length + 1 := by
  obtain ⟨m, c, hc, hm, _⟩ := gone_mem (List.mem_of_getElem? ha)
  have ht := k.mem hc hm
  have hnd := k.gone_nd (now := now) hca
  have hin : tri a ∈ TJ T (expG now cls) j := by
    unfold TJ
    rw [List.mem_filter]
    refine ⟨ht, decide_eq_true fun e => ?_⟩
    have hl := (List.getElem?_eq_some_iff.1 ha).1
    rw [List.mem_map] at e
    obtain ⟨b, hb, e⟩ := e
    obtain ⟨u, hu, hb⟩ := List.getElem_of_mem hb
    rw [List.length_take] at hu
    rw [List.getElem_take] at hb
    unfold List.Nodup at hnd
    rw [List.pairwise_iff_getElem] at hnd
    have := hnd u j (by simp; omega) (by simpa using hl) (by omega)
    rw [List.getElem_map, List.getElem_map, hb] at this
    rw [List.getElem?_eq_getElem hl] at ha
    cases ha
    exact this e
  have hn : (TJ T (expG now cls) j).Nodup := k.nd.filter _
  rw [TJ_step ha]
  have e : (TJ T (expG now cls) j).filter (fun t => decide (t ≠ tri a)) = (TJ T (expG now cls) j).erase (tri a) := by
    rw [hn.erase_eq_filter]
    congr 1
    funext t
    by_cases e : t = tri a
    · simp [e]
    · simp [e]
  rw [e, List.length_erase_of_mem hin]
  have := List.length_pos_of_mem hin
  omega
theorem TOk.inj (k : TOk cls T i) {j : Nat} {c : Cl} {a b : AF} (hc : cls[j]? = some c) (ha : a ∈ c.qs) (hb : b ∈ c.qs) (e : tri a = tri b) : a = b := by
  have nd : (c.qs.map tri).Nodup := by rw [← k.cl j c hc]; exact k.nd.filter _
  obtain ⟨u, hu, rfl⟩ := List.getElem_of_mem ha
  obtain ⟨w, hw, rfl⟩ := List.getElem_of_mem hb
  unfold List.Nodup at nd
  rw [List.pairwise_iff_getElem] at nd
  rcases Nat.lt_trichotomy u w with h | h | h
  · have := nd u w (by simpa using hu) (by simpa using hw) h
    rw [List.getElem_map, List.getElem_map] at this
    exact absurd e this
  · subst h; rfl
  · have := nd w u (by simpa using hw) (by simpa using hu) h
    rw [List.getElem_map, List.getElem_map] at this
    exact absurd e.symm this
/-- all that is late is gone -/
theorem TOk.exp (k : TOk cls T i) (hca : CaAll cl cls) : TOk (cls.map (expC now)) (TJ T (expG now cls) (expG now cls).length) i := by
  have hTJ : TJ T (expG now cls) (expG now cls).length = T.filter fun t => decide (t ∉ (expG now cls).map tri) := by unfold TJ; rw [List.take_length]
  rw [hTJ]
  refine ⟨k.nd.filter _, fun j c hc => ?_, fun t ht => ?_, fun t ht => k.up t (List.mem_filter.1 ht).1⟩
  · rw [List.getElem?_map, Option.map_eq_some_iff] at hc
    obtain ⟨d, hd, rfl⟩ := hc
    have e1 : (T.filter fun t => decide (t ∉ (expG now cls).map tri)).filter (fun t => decide (t.1 = (j : Int))) = (T.filter fun t => decide (t.1 = (j : Int))).filter fun t => decide (t ∉ (expG now cls).map tri) := by
      rw [List.filter_filter, List.filter_filter]
      congr 1
      funext t
      rw [Bool.and_comm]
    rw [e1, k.cl j d hd, List.filter_map]
    show _ = (d.qs.filter fun a => !late now a).map tri
    congr 1
    refine List.filter_congr fun a ha => ?_
    simp only [Function.comp]
    cases hl : late now a with
    | true =>
      have : tri a ∈ (expG now cls).map tri := by
        refine List.mem_map_of_mem ?_
        unfold expG
        rw [List.mem_flatten]
        exact ⟨_, List.mem_map_of_mem (List.mem_of_getElem? hd), List.mem_filter.2 ⟨ha, hl⟩⟩
      simp [this]
    | false =>
      have : tri a ∉ (expG now cls).map tri := fun e => by
        rw [List.mem_map] at e
        obtain ⟨b, hb, e⟩ := e
        obtain ⟨m, c, hc, hbm, hbl⟩ := gone_mem hb
        have h1 := (hca m c hc b hbm).kls
        have h2 := (hca j d hd a ha).kls
        have h3 := congrArg (·.1) e
        simp only [tri] at h3
        have hmj : m = j := by omega
        subst hmj
        rw [hd] at hc; cases hc
        have := k.inj hd hbm ha e
        rw [this, hl] at hbl
        cases hbl
      simp [this]
  · rw [List.length_map]; exact k.rg t (List.mem_filter.1 ht).1
/-- the first one of a class is taken out -/
theorem TOk.pop (k : TOk cls T i) (hca : CaAll cl cls) {j : Nat} {a : AF} {rest : List AF} (hj : (QS cls)[j]? = some (a :: rest)) (e : QS cls' = (QS cls).set j rest) : TOk cls' (T.filter fun t => decide (t ≠ tri a)) i := by
  have hlen : cls'.length = cls.length := by have := congrArg List.length e; simpa using this
  rw [List.getElem?_map, Option.map_eq_some_iff] at hj
  obtain ⟨c, hc, hcq⟩ := hj
  have hl := (List.getElem?_eq_some_iff.1 hc).1
  have hak := (hca j c hc a (by rw [hcq]; simp)).kls
  refine ⟨k.nd.filter _, fun m d hd => ?_, fun t ht => by rw [hlen]; exact k.rg t (List.mem_filter.1 ht).1, fun t ht => k.up t (List.mem_filter.1 ht).1⟩
  have e1 : (T.filter fun t => decide (t ≠ tri a)).filter (fun t => decide (t.1 = (m : Int))) = (T.filter fun t => decide (t.1 = (m : Int))).filter fun t => decide (t ≠ tri a) := by
    rw [List.filter_filter, List.filter_filter]
    congr 1
    funext t
    rw [Bool.and_comm]
  have hdq : (QS cls')[m]? = some d.qs := QS_get hd
  rw [e] at hdq
  rw [e1]
  by_cases hmj : m = j
  · subst hmj
    rw [List.getElem?_set_self (by simpa using hl)] at hdq
    have hdr : d.qs = rest := (Option.some.inj hdq).symm
    rw [k.cl m c hc, hcq, hdr, List.map_cons, List.filter_cons]
    have nd : (c.qs.map tri).Nodup := by rw [← k.cl m c hc]; exact k.nd.filter _
    rw [hcq, List.map_cons] at nd
    have := (List.nodup_cons.1 nd).1
    simp only [ne_eq, not_true_eq_false, decide_false, Bool.false_eq_true, if_false]
    refine List.filter_eq_self.2 fun t ht => decide_eq_true fun e => this (e ▸ ht)
  · rw [List.getElem?_set_ne (Ne.symm hmj), List.getElem?_map, Option.map_eq_some_iff] at hdq
    obtain ⟨d0, hd0, hdd⟩ := hdq
    rw [k.cl m d0 hd0, hdd]
    refine List.filter_eq_self.2 fun t ht => decide_eq_true fun e => ?_
    rw [List.mem_map] at ht
    obtain ⟨b, hb, hbt⟩ := ht
    have h1 := (hca m d0 hd0 b (by rw [hdd]; exact hb)).kls
    have h3 := congrArg (·.1) (hbt.trans e)
    simp only [tri] at h3
    omega
theorem CaAll.pop {j : Nat} {a : AF} {rest : List AF} (k : CaAll cl cls) (hj : (QS cls)[j]? = some (a :: rest)) (e : QS cls' = (QS cls).set j rest) : CaAll cl cls' := by
  intro m d hd x hx
  have hdq : (QS cls')[m]? = some d.qs := QS_get hd
  rw [e] at hdq
  rw [List.getElem?_map, Option.map_eq_some_iff] at hj
  obtain ⟨c, hc, hcq⟩ := hj
  have hl := (List.getElem?_eq_some_iff.1 hc).1
  by_cases hmj : m = j
  · subst hmj
    rw [List.getElem?_set_self (by simpa using hl)] at hdq
    have hdr : d.qs = rest := (Option.some.inj hdq).symm
    exact k m c hc x (by rw [hcq]; rw [hdr] at hx; simp [hx])
  · rw [List.getElem?_set_ne (Ne.symm hmj), List.getElem?_map, Option.map_eq_some_iff] at hdq
    obtain ⟨d0, hd0, hdd⟩ := hdq
    exact k m d0 hd0 x (by rw [hdd]; exact hx)
theorem CaAll.push {j : Nat} {c : Cl} {a : AF} (k : CaAll cl cls) (hc : cls[j]? = some c) (ha : CaOk cl j a) : CaAll cl (cls.set j { c with qs := c.qs ++ [a] }) := by
  intro m d hd x hx
  rcases set_get (List.getElem?_eq_some_iff.1 hc).1 hd with ⟨rfl, rfl⟩ | ⟨h1, h2⟩
  · rcases List.mem_append.1 hx with hx | hx
    · exact k m c hc x hx
    · rw [List.mem_singleton] at hx; subst hx; exact ha
  · exact k m d h2 x hx
/-- the first one of a class in the list -/
theorem first_is {T : List Tri} {p : Tri → Bool} {x : Tri} {r : List Tri} (h : T.filter p = x :: r) {f : Nat} {t : Tri} (ht : T[f]? = some t) (hp : p t = true) (hn : ∀ (u : Nat) (s : Tri), u < f → T[u]? = some s → p s = false) : t = x := by
  have hl := (List.getElem?_eq_some_iff.1 ht).1
  have e : T = T.take f ++ t :: T.drop (f + 1) := by
    rw [List.getElem?_eq_getElem hl] at ht; cases ht
    rw [← List.drop_eq_getElem_cons hl, List.take_append_drop]
  have e0 : (T.take f).filter p = [] := by
    rw [List.filter_eq_nil_iff]
    intro s hs
    obtain ⟨u, hu, rfl⟩ := List.getElem_of_mem hs
    rw [List.length_take] at hu
    rw [hn u _ (by omega) (by rw [List.getElem_take]; exact List.getElem?_eq_getElem _)]
    simp
  rw [e, List.filter_append, e0, List.nil_append, List.filter_cons, if_pos hp] at h
  exact (List.cons.inj h).1
/-- what was barred stays barred; what is out is barred -/
theorem barB_keep {bs : List (Int × Int)} {c d : Nat} {x y p r : Int × Int} (h : bs[c]? = some p) (hr : (barB bs d y)[c]? = some r) (hb : ¬ before p x) : ¬ before r x := by
  unfold barB at hr
  split at hr
  · rename_i p' hp'
    split at hr
    · rename_i hlt
      by_cases hcd : c = d
      · subst hcd
        rw [h] at hp'; cases hp'
        rw [List.getElem?_set_self (List.getElem?_eq_some_iff.1 h).1] at hr
        cases hr
        intro hb2
        apply hb
        rcases hlt with h1 | ⟨h1, h2⟩ <;> rcases hb2 with h3 | ⟨h3, h4⟩
        · exact .inl (by omega)
        · exact .inl (by omega)
        · exact .inl (by omega)
        · exact .inr ⟨by omega, by omega⟩
      · rw [List.getElem?_set_ne (Ne.symm hcd), h] at hr; cases hr; exact hb
    · rw [h] at hr; cases hr; exact hb
  · rw [h] at hr; cases hr; exact hb
theorem barB_self {bs : List (Int × Int)} {c : Nat} {x r : Int × Int} (hr : (barB bs c x)[c]? = some r) : ¬ before r x := by
  unfold barB at hr
  split at hr
  · rename_i p hp
    split at hr
    · rw [List.getElem?_set_self (List.getElem?_eq_some_iff.1 hp).1] at hr
      cases hr
      rintro (h | h) <;> omega
    · rename_i hlt
      rw [hp] at hr; cases hr; exact hlt
  · rename_i hp; rw [hp] at hr; cases hr
theorem outB_barred (A : List AF) : ∀ {bs : List (Int × Int)} {c : Nat} {x p r : Int × Int}, bs[c]? = some p → (outB bs A)[c]? = some r → ¬ before p x → ¬ before r x := by
  induction A with
  | nil => intro bs c x p r h hr hb; rw [show outB bs [] = bs from rfl, h] at hr; cases hr; exact hb
  | cons y A ih =>
    intro bs c x p r h hr hb
    have hl := (List.getElem?_eq_some_iff.1 h).1
    obtain ⟨p', hp'⟩ : ∃ p', (barB bs (cI y.1 2).toNat (cI y.1 3, cI y.1 4))[c]? = some p' := ⟨_, List.getElem?_eq_getElem (by rw [barB_len]; exact hl)⟩
    exact ih hp' hr (barB_keep h hp' hb)
theorem outB_gone : ∀ {A : List AF} {bs : List (Int × Int)} {a : AF} {r : Int × Int}, a ∈ A → (cI a.1 2).toNat < bs.length → (outB bs A)[(cI a.1 2).toNat]? = some r → ¬ before r (cI a.1 3, cI a.1 4) := by
  intro A
  induction A with
  | nil => intro bs a r h; cases h
  | cons y A ih =>
    intro bs a r h hl hr
    rcases List.mem_cons.1 h with rfl | h
    · obtain ⟨p', hp'⟩ : ∃ p', (barB bs (cI a.1 2).toNat (cI a.1 3, cI a.1 4))[(cI a.1 2).toNat]? = some p' := ⟨_, List.getElem?_eq_getElem (by rw [barB_len]; exact hl)⟩
      exact outB_barred A hp' hr (barB_self hp')
    · exact ih (bs := barB bs _ _) h (by rw [barB_len]; exact hl) hr
end
end Go.Proofs.Ytdncenepmkbolaa
