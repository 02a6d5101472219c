/-
  'AdmitSticks': who waits, and how many.
-/
import Derived.Test.YtdncenepmkbolaaAdmitK
namespace Go.Proofs.Ytdncenepmkbolaa
open Go Go.Abs Go.Abs.S Go.Abs.W
set_option maxRecDepth 10000
set_option maxHeartbeats 4000000
section
variable {h h0 : Go.Abs.H} {n a s N : Nat} {L : List Ch} {cl q turn : Int} {stale : Bool} {v : AV} {cls cls' : List Cl} {bs : List (Int × Int)} {ws : List Int} {c : Cl}
theorem adm_len {i : Nat} (hn : 4 ≤ n) (k : Hs h0 (AdC a s cl q bs ws :: SL s v N cls turn stale L) h) (hi : cls[i]? = some c) : callX env sums n 58 [.ptr a 0, .int .i64 i] h = some (.int .i64 c.qs.length, h) := by
  obtain ⟨n, rfl⟩ : ∃ k, n = k + 1 := ⟨n - 1, by omega⟩
  have gs0 : cellG 0 (h.get a) = some (.ptr s 0) := by rw [k.get, cellG_one _ _ _ _ _ _ (by omega) (by omega)]; rfl
  refine spec_eq (spec_trN [.ptr a 0, .int .i64 i] rfl ft58 (by kernel_rfl) (tn58 ..) ?_)
  simp (disch := (first | omega | assumption | rfl | (simp only [hn_new, hn_put, skip_n]; omega))) only [go_sem, adm_none (n := n) (by omega) k, gs0, s_len (n := n) (by omega) (sl_in k) hi]
theorem adm_waits {i : Nat} {w : Int} (hn : 4 ≤ n) (k : Hs h0 (AdC a s cl q bs ws :: L) h) (hc : 1 ≤ cl ∧ cl ≤ 6) (h6 : bs.length = 6) (hi : (i : Int) < cl) (hw : ws[i]? = some w) : ∃ h', callX env sums n 57 [.ptr a 0, .int .i64 i] h = some (.tup [.int .i64 w, .bool (!decide (w = 0))], h') ∧ Keep h h' [] := by
  obtain ⟨n, rfl⟩ : ∃ k, n = k + 1 := ⟨n - 1, by omega⟩
  have g1 : cellG 1 (h.get a) = some (.int .i64 cl) := by rw [k.get, cellG_one _ _ _ _ _ _ (by omega) (by omega)]; rfl
  have hk : decide (0 ≤ (i : Int) ∧ (i : Int) ≤ cl - 1) = true := decide_eq_true (by omega)
  have gw := ad_wait k h6 (by omega) hw
  have ar := arr6 (i := i) (by omega)
  refine ⟨h.skip 15, ?_, (Keep.refl h _).skip 15⟩
  refine spec_eq (spec_trN [.ptr a 0, .int .i64 i] rfl ft57 (by kernel_rfl) (tn57 ..) ?_)
  simp (disch := (first | omega | assumption | rfl | (simp only [hn_new, hn_put, skip_n]; omega))) only [go_sem, adm_none (n := n) (by omega) k, g1, within_ok (n := n) (by omega), hk, ar, gw]
end
/-! who waits -/
noncomputable def cli (a : AF) : Nat := (cI a.1 2).toNat
noncomputable def Wt (cls : List Cl) : List AF := (QS cls).flatten
/-- of each client at most one waits, and that is known -/
structure WOk (cls : List Cl) (ws : List Int) : Prop where
  nd : ((Wt cls).map cli).Nodup
  iff : ∀ (c : Nat) (w : Int), ws[c]? = some w → (w ≠ 0 ↔ c ∈ (Wt cls).map cli)
section
variable {cls cls' : List Cl} {ws : List Int}
theorem flat_set {L : List (List AF)} : ∀ {i : Nat} {q r : List AF} {x : AF}, L[i]? = some q → q.Perm (x :: r) → L.flatten.Perm (x :: (L.set i r).flatten) := by
  induction L with
  | nil => intro i q r x h; simp at h
  | cons y L ih =>
    intro i q r x h hp
    cases i with
    | zero =>
      simp at h; subst h
      rw [List.set_cons_zero, List.flatten_cons, List.flatten_cons]
      exact hp.append_right _
    | succ i =>
      rw [List.set_cons_succ, List.flatten_cons, List.flatten_cons]
      exact ((ih (by simpa using h) hp).append_left y).trans List.perm_middle
theorem wt_push {j : Nat} {c : Cl} {a : AF} (hc : cls[j]? = some c) : (Wt (cls.set j { c with qs := c.qs ++ [a] })).Perm (a :: Wt cls) := by
  have hl := (List.getElem?_eq_some_iff.1 hc).1
  have h1 : (QS (cls.set j { c with qs := c.qs ++ [a] }))[j]? = some (c.qs ++ [a]) := by rw [QS, List.map_set, List.getElem?_set_self (by simpa using hl)]
  have := flat_set (r := c.qs) (x := a) h1 List.perm_append_comm
  rw [QS, List.map_set, List.set_set] at this
  have e : (cls.map (·.qs)).set j c.qs = cls.map (·.qs) := by
    have h2 : (cls.map (·.qs))[j]? = some c.qs := by rw [List.getElem?_map, hc]; rfl
    rw [List.getElem?_eq_getElem (by simpa using hl)] at h2
    rw [← Option.some.inj h2, List.set_getElem_self]
  rw [e] at this
  unfold Wt
  rw [QS, List.map_set]
  exact this
theorem wt_pop {j : Nat} {a : AF} {rest : List AF} (hj : (QS cls)[j]? = some (a :: rest)) (e : QS cls' = (QS cls).set j rest) : (Wt cls).Perm (a :: Wt cls') := by
  unfold Wt
  rw [e]
  exact flat_set hj (List.Perm.refl _)
theorem wt_exp (now : Int) : (Wt cls).Perm (expG now cls ++ Wt (cls.map (expC now))) := by
  unfold Wt
  rw [exp_QS]
  unfold expG
  have e : (cls.map fun c => c.qs.filter (late now)) = (QS cls).map fun q => q.filter (late now) := by simp [QS, List.map_map, Function.comp_def]
  rw [e]
  induction QS cls with
  | nil => exact List.Perm.refl _
  | cons q L ih =>
    simp only [List.flatten_cons, List.map_cons]
    have h1 : q.Perm (q.filter (late now) ++ q.filter fun a => !late now a) := (List.filter_append_perm (late now) q).symm
    refine (h1.append ih).trans ?_
    rw [List.append_assoc, List.append_assoc]
    refine List.Perm.append_left _ ?_
    exact List.perm_append_comm_assoc _ _ _
theorem WOk.push {j : Nat} {c : Cl} {a : AF} {sq : Int} (k : WOk cls ws) (hc : cls[j]? = some c) (hw : ws[cli a]? = some 0) (hs : sq ≠ 0) : WOk (cls.set j { c with qs := c.qs ++ [a] }) (ws.set (cli a) sq) := by
  have hp := (wt_push (a := a) hc).map cli
  have hn : cli a ∉ (Wt cls).map cli := fun h => absurd rfl ((k.iff (cli a) 0 hw).2 h)
  have hl := (List.getElem?_eq_some_iff.1 hw).1
  refine ⟨hp.nodup_iff.2 (List.nodup_cons.2 ⟨hn, k.nd⟩), fun d w hd => ?_⟩
  rw [hp.mem_iff, List.map_cons, List.mem_cons]
  by_cases hda : d = cli a
  · subst hda
    rw [List.getElem?_set_self hl] at hd; cases hd
    exact ⟨fun _ => .inl rfl, fun _ => hs⟩
  · rw [List.getElem?_set_ne (Ne.symm hda)] at hd
    rw [k.iff d w hd]
    exact ⟨.inr, fun h => h.resolve_left hda⟩
theorem WOk.take {a : AF} {R : List AF} {W' : List AF} (nd : (R.map cli).Nodup) (iff : ∀ (c : Nat) (w : Int), ws[c]? = some w → (w ≠ 0 ↔ c ∈ R.map cli)) (hp : R.Perm (a :: W')) : (W'.map cli).Nodup ∧ ∀ (c : Nat) (w : Int), (ws.set (cli a) 0)[c]? = some w → (w ≠ 0 ↔ c ∈ W'.map cli) := by
  have hp' := hp.map cli
  have nd' := hp'.nodup_iff.1 nd
  rw [List.map_cons, List.nodup_cons] at nd'
  refine ⟨nd'.2, fun d w hd => ?_⟩
  by_cases hda : d = cli a
  · subst hda
    have hl := (List.getElem?_eq_some_iff.1 hd).1
    rw [List.getElem?_set_self (by simpa using hl)] at hd; cases hd
    exact ⟨fun h => absurd rfl h, fun h => absurd h nd'.1⟩
  · rw [List.getElem?_set_ne (Ne.symm hda)] at hd
    rw [iff d w hd, hp'.mem_iff, List.map_cons, List.mem_cons]
    exact ⟨fun h => h.resolve_left hda, .inr⟩
theorem wok_out : ∀ {A R W' : List AF} {ws : List Int}, (R.map cli).Nodup → (∀ (c : Nat) (w : Int), ws[c]? = some w → (w ≠ 0 ↔ c ∈ R.map cli)) → R.Perm (A ++ W') → (W'.map cli).Nodup ∧ ∀ (c : Nat) (w : Int), (outW ws A)[c]? = some w → (w ≠ 0 ↔ c ∈ W'.map cli) := by
  intro A
  induction A with
  | nil =>
    intro R W' ws nd iff hp
    have hp' := (show R.Perm W' from hp).map cli
    exact ⟨hp'.nodup_iff.1 nd, fun d w hd => by rw [← hp'.mem_iff]; exact iff d w hd⟩
  | cons x A ih =>
    intro R W' ws nd iff hp
    obtain ⟨n1, i1⟩ := WOk.take nd iff (show R.Perm (x :: (A ++ W')) from hp)
    exact ih n1 i1 (List.Perm.refl _)
theorem WOk.exp (k : WOk cls ws) (now : Int) : WOk (cls.map (expC now)) (outW ws (expG now cls)) := by
  obtain ⟨n1, i1⟩ := wok_out k.nd k.iff (wt_exp now)
  exact ⟨n1, i1⟩
theorem WOk.pop {j : Nat} {a : AF} {rest : List AF} (k : WOk cls ws) (hj : (QS cls)[j]? = some (a :: rest)) (e : QS cls' = (QS cls).set j rest) : WOk cls' (ws.set (cli a) 0) := by
  obtain ⟨n1, i1⟩ := WOk.take k.nd k.iff (wt_pop hj e)
  exact ⟨n1, i1⟩
/-- how many clients wait -/
def nWait (ws : List Int) (m : Nat) : Nat := ((List.range m).filter fun c => decide (ws[c]?.getD 0 ≠ 0)).length
theorem nWait_zero (ws : List Int) : nWait ws 0 = 0 := rfl
theorem nWait_succ {m : Nat} {w : Int} (hw : ws[m]? = some w) : nWait ws (m + 1) = nWait ws m + (if w = 0 then 0 else 1) := by
  unfold nWait
  rw [List.range_succ, List.filter_append, List.length_append]
  by_cases h : w = 0
  · simp [hw, h]
  · simp [hw, h]
theorem wok_count {m : Nat} (k : WOk cls ws) (hm : m ≤ ws.length) (hr : ∀ a ∈ Wt cls, cli a < m) : nWait ws m = (Wt cls).length := by
  have hp : ((List.range m).filter fun c => decide (ws[c]?.getD 0 ≠ 0)).Perm ((Wt cls).map cli) := by
    rw [List.perm_ext_iff_of_nodup (List.nodup_range.filter _) k.nd]
    intro c
    rw [List.mem_filter, List.mem_range]
    constructor
    · rintro ⟨h1, h2⟩
      obtain ⟨w, hw⟩ : ∃ w, ws[c]? = some w := ⟨ws[c]'(by omega), List.getElem?_eq_getElem _⟩
      rw [hw] at h2
      exact (k.iff c w hw).1 (by simpa using h2)
    · intro h
      have hc : c < m := by
        rw [List.mem_map] at h
        obtain ⟨a, ha, rfl⟩ := h
        exact hr a ha
      obtain ⟨w, hw⟩ : ∃ w, ws[c]? = some w := ⟨ws[c]'(by omega), List.getElem?_eq_getElem _⟩
      refine ⟨hc, ?_⟩
      rw [hw]
      have := (k.iff c w hw).2 h
      simpa using this
  unfold nWait
  rw [hp.length_eq, List.length_map]
/-- how many wait in the first classes -/
def nLen (cls : List Cl) (k : Nat) : Nat := ((cls.take k).map (·.qs.length)).sum
theorem nLen_succ {k : Nat} {c : Cl} (hc : cls[k]? = some c) : nLen cls (k + 1) = nLen cls k + c.qs.length := by
  unfold nLen
  rw [List.take_add_one, hc]; simp
theorem nLen_all : nLen cls cls.length = (Wt cls).length := by
  unfold nLen Wt
  rw [List.take_length, List.length_flatten, QS, List.map_map]; rfl
theorem nLen_le {N t : Nat} {st : Bool} (ok : ScOk N cls t st) (hN : N ≤ 16) (k : Nat) : nLen cls k ≤ 16 * k := by
  induction k with
  | zero => simp [nLen]
  | succ k ih =>
    by_cases h : k < cls.length
    · rw [nLen_succ (List.getElem?_eq_getElem h)]
      have := (ok.ok _ (List.getElem_mem h)).len
      omega
    · have : nLen cls (k + 1) = nLen cls k := by unfold nLen; rw [List.take_of_length_le (by omega), List.take_of_length_le (by omega)]
      omega
theorem nWait_le (ws : List Int) (m : Nat) : nWait ws m ≤ m := by
  unfold nWait
  have := List.length_filter_le (fun c => decide (ws[c]?.getD 0 ≠ 0)) (List.range m)
  rw [List.length_range] at this
  exact this
/-- deadlines of what waits -/
def DlOk (cls : List Cl) : Prop := ∀ a ∈ Wt cls, 0 ≤ cI a.1 6 ∧ cI a.1 6 ≤ 255
theorem DlOk.push {j : Nat} {c : Cl} {a : AF} (k : DlOk cls) (hc : cls[j]? = some c) (ha : 0 ≤ cI a.1 6 ∧ cI a.1 6 ≤ 255) : DlOk (cls.set j { c with qs := c.qs ++ [a] }) := by
  intro x hx
  rcases List.mem_cons.1 ((wt_push hc).mem_iff.1 hx) with rfl | h
  · exact ha
  · exact k x h
theorem DlOk.exp (k : DlOk cls) (now : Int) : DlOk (cls.map (expC now)) := fun x hx => k x ((wt_exp now).mem_iff.2 (List.mem_append_right _ hx))
theorem DlOk.pop {j : Nat} {a : AF} {rest : List AF} (k : DlOk cls) (hj : (QS cls)[j]? = some (a :: rest)) (e : QS cls' = (QS cls).set j rest) : DlOk cls' := fun x hx => k x ((wt_pop hj e).mem_iff.2 (List.mem_cons_of_mem _ hx))
theorem wt_ca {cl : Int} (k : CaAll cl cls) {a : AF} (ha : a ∈ Wt cls) : ∃ j, CaOk cl j a := by
  unfold Wt at ha
  rw [List.mem_flatten] at ha
  obtain ⟨q, hq, ha⟩ := ha
  rw [List.mem_map] at hq
  obtain ⟨c, hc, rfl⟩ := hq
  obtain ⟨j, hj, he⟩ := List.getElem_of_mem hc
  exact ⟨j, k j c (by rw [List.getElem?_eq_getElem hj, he]) a ha⟩
end
end Go.Proofs.Ytdncenepmkbolaa
