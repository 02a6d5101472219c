/-
  The laws' own books: an array of lists of numbers.
-/
import Derived.Test.YtdncenepmkbolaaSchedK
namespace Go.Proofs.Ytdncenepmkbolaa
open Go Go.Abs Go.Abs.S Go.Abs.W
set_option maxRecDepth 10000
set_option maxHeartbeats 2000000
theorem slis63 : slIs env.tt 63 1 = true := by kernel_rfl
abbrev LP := AV × List Int
def lsm (ps : List LP) : List Ch := ps.map fun p => LsC 1 p.1 (qrows p.2)
/-- the books: an array at b, a list behind each of its places -/
def Bk (b : Nat) (ps : List LP) (L : List Ch) : List Ch := Cell b (.rows 3 [ps.map (·.1)] false none none) :: (lsm ps ++ L)
section
variable {h0 h : Go.Abs.H} {A X : Ch} {L : List Ch} {b i : Nat} {ps : List LP} {p p' : LP}
theorem lp_out (hi : ps[i]? = some p) (k : Hs h0 (A :: (lsm ps ++ L)) h) : Hs h0 (LsC 1 p.1 (qrows p.2) :: A :: (lsm (ps.take i ++ ps.drop (i + 1)) ++ L)) h := by
  have hl := (List.getElem?_eq_some_iff.1 hi).1
  have hs : ps = ps.take i ++ p :: ps.drop (i + 1) := by
    rw [List.getElem?_eq_getElem hl] at hi; cases hi
    rw [← List.drop_eq_getElem_cons hl, List.take_append_drop]
  have e : lsm ps ++ L = lsm (ps.take i) ++ LsC 1 p.1 (qrows p.2) :: (lsm (ps.drop (i + 1)) ++ L) := by
    conv => lhs; rw [hs]
    simp [lsm, List.map_append]
  rw [e] at k
  have e2 : lsm (ps.take i ++ ps.drop (i + 1)) ++ L = lsm (ps.take i) ++ (lsm (ps.drop (i + 1)) ++ L) := by simp [lsm, List.map_append]
  rw [e2]
  exact k.perm ((List.perm_middle.cons A).trans (List.Perm.swap _ _ _))
theorem lp_in (hi : i < ps.length) (k : Hs h0 (LsC 1 p'.1 (qrows p'.2) :: A :: (lsm (ps.take i ++ ps.drop (i + 1)) ++ L)) h) : Hs h0 (A :: (lsm (ps.set i p') ++ L)) h := by
  have e : lsm (ps.set i p') ++ L = lsm (ps.take i) ++ LsC 1 p'.1 (qrows p'.2) :: (lsm (ps.drop (i + 1)) ++ L) := by
    rw [List.set_eq_take_append_cons_drop, if_pos hi]
    simp [lsm, List.map_append]
  rw [e]
  have e2 : lsm (ps.take i ++ ps.drop (i + 1)) ++ L = lsm (ps.take i) ++ (lsm (ps.drop (i + 1)) ++ L) := by simp [lsm, List.map_append]
  rw [e2] at k
  exact k.perm ((List.perm_middle.cons A).trans (List.Perm.swap _ _ _)).symm
theorem bk_in (k : Hs h0 (X :: Bk b ps L) h) : Hs h0 (Bk b ps (X :: L)) h := k.perm ((List.Perm.swap _ _ _).trans (List.perm_middle.symm.cons _))
theorem bk_out (k : Hs h0 (Bk b ps (X :: L)) h) : Hs h0 (X :: Bk b ps L) h := k.perm ((List.Perm.swap _ _ _).trans (List.perm_middle.symm.cons _)).symm
theorem arr3 (hi : i < 3) : arrI 3 (i : Int) = some i := by
  have : i = 0 ∨ i = 1 ∨ i = 2 := by omega
  rcases this with rfl | rfl | rfl <;> rfl
theorem storeB_one (h : Go.Abs.H) {r : List AV} {x : AV} (hi : i < r.length) : storeB h b i [x] (some (.rows r.length [r] false none none)) = some (h.put b (.rows r.length [r.set i x] false none none)) := by
  have e : atN (over [x]) i r = some (r.set i x) := by
    rw [atN_put (by simp; omega), List.set_eq_take_append_cons_drop, if_pos hi]; simp
  rw [storeB_rows, storeG_one _ _ _ _ hi, e]
/-- what a place of the books tells -/
structure BkAt (h : Go.Abs.H) (b i : Nat) (p : LP) : Prop where
  arr : arrI 3 (i : Int) = some i
  get : cellG (i * 1) (h.get b) = some p.1
  len : lenS p.1 = some p.2.length
  one : p.1.one = true
theorem bk_at (k : Hs h0 (Bk b ps L) h) (h3 : ps.length = 3) (hi : ps[i]? = some p) : BkAt h b i p := by
  have hl := (List.getElem?_eq_some_iff.1 hi).1
  refine ⟨arr3 (by omega), ?_, ?_, (lp_out hi k).one⟩
  · rw [k.get, Nat.mul_one, cellG_one _ _ _ _ _ _ (by omega) (by omega), nth_eq, List.getElem?_map, hi]; rfl
  · have := (lp_out hi k).sl.len
    rw [this]; simp [qrows]
theorem bk_head (k : Hs h0 (Bk b ps L) h) (hi : ps[i]? = some p) {x : Int} {xs : List Int} (hp : p.2 = x :: xs) : ∃ b' o', idxS 1 p.1 0 = some (b', o') ∧ cellG o' (h.get b') = some (.int .i64 x) := by
  obtain ⟨b', o', e1, _, e3, _⟩ := (lp_out hi k).sl.idx (i := 0) (r := [.int .i64 x]) (by rw [hp]; rfl)
  have := e3 0 (by omega)
  exact ⟨b', o', e1, by rwa [Nat.add_zero] at this⟩
/-- a place's list loses its first -/
theorem bk_cut (k : Hs h0 (Bk b ps L) h) (h3 : ps.length = 3) (hi : ps[i]? = some p) {x : Int} {xs : List Int} (hp : p.2 = x :: xs) : ∃ w h', sliceOp env.tt 63 p.1 (some 1) none none = some w ∧ w.one = true ∧ storeB h b (i * 1) [w] (h.get b) = some h' ∧ Hs h0 (Bk b (ps.set i (w, xs)) L) h' ∧ Keep h h' [b] := by
  have hl := (List.getElem?_eq_some_iff.1 hi).1
  have ko := lp_out hi k
  obtain ⟨S, c, _, _⟩ := ko.out
  obtain ⟨a, w, c1, c2, c3, c4, c5, c6, c7, c8⟩ := c.1.cut slis63 (i := 1) (by rw [hp]; simp [qrows])
  have ek : Hs h0 (LsC 1 w (qrows xs) :: Cell b (.rows 3 [ps.map (·.1)] false none none) :: (lsm (ps.take i ++ ps.drop (i + 1)) ++ L)) h := ko.step (lsc_ok ..) fun S' c' => by
    obtain ⟨a', w', d1, d2, d3, d4, d5, d6, d7, d8⟩ := c'.1.cut slis63 (i := 1) (by rw [hp]; simp [qrows])
    rw [c2] at d2; cases d2
    rw [hp] at d4
    exact ⟨S', ⟨d4, c8⟩, Keep.refl h S', fun _ hx => .inl hx⟩
  have e3 : (ps.map (·.1)).length = 3 := by simpa using h3
  have kp := ek.at2.put (.rows 3 [(ps.map (·.1)).set i w] false none none)
  refine ⟨w, h.put b (.rows 3 [(ps.map (·.1)).set i w] false none none), c2, c8, ?_, ?_, (Keep.refl h _).put (.inr (by simp)) _⟩
  rotate_left
  · have := lp_in (p' := (w, xs)) hl kp.at2
    unfold Bk
    rw [List.map_set]
    exact this
  · have := storeB_one (b := b) (i := i) (x := w) h (r := ps.map (·.1)) (by simpa using hl)
    rw [e3] at this
    rw [k.get, Nat.mul_one, this]
/-- a number more -/
theorem bk_app (k : Hs h0 (Bk b ps L) h) (h3 : ps.length = 3) (hi : ps[i]? = some p) (x : Int) (hm : p.2.length ≤ 1000) : ∃ v h', appendOp (h.new (.rows 1 [[.int .i64 x]] false none none)) 1 8 p.1 (.sl h.n 0 1 1) = some (v, h') ∧ v.one = true ∧ ∃ h'', storeB h' b (i * 1) [v] (h'.get b) = some h'' ∧ Hs h0 (Bk b (ps.set i (v, p.2 ++ [x])) L) h'' := by
  have hl := (List.getElem?_eq_some_iff.1 hi).1
  have kn := (lp_out hi k).new (.rows 1 [[.int .i64 x]] false none none)
  obtain ⟨v, h', q1, q2, q3⟩ := kn.at2.app (by omega) 8 (rows_one kn.get (by omega) 1) (by simp [qrows]; omega) (by simp [qrows]; omega)
  have q4 := q2.at2.drop.at2
  have e3 : (ps.map (·.1)).length = 3 := by simpa using h3
  refine ⟨v, h', q1, q2.one, h'.put b (.rows 3 [(ps.map (·.1)).set i v] false none none), ?_, ?_⟩
  · have := storeB_one (b := b) (i := i) (x := v) h' (r := ps.map (·.1)) (by simpa using hl)
    rw [e3] at this
    rw [q4.get, Nat.mul_one, this]
  · have kp := q4.put (.rows 3 [(ps.map (·.1)).set i v] false none none)
    have e : qrows p.2 ++ [[AV.int .i64 x]] = qrows (p.2 ++ [x]) := by simp [qrows]
    rw [e] at kp
    have := lp_in (p' := (v, p.2 ++ [x])) hl kp.at2
    unfold Bk
    rw [List.map_set]
    exact this
theorem bk_sl {s N : Nat} {v : AV} {cls : List Cl} {turn : Int} {stale : Bool} (k : Hs h0 (SL s v N cls turn stale (Bk b ps L)) h) : Hs h0 (Bk b ps (SL s v N cls turn stale L)) h :=
  k.perm (List.perm_append_comm_assoc (ScC s v turn stale :: LsC 4 v (cls.map Cl.row) :: rings N cls) (Cell b (.rows 3 [ps.map (fun p : LP => p.1)] false none none) :: lsm ps) L)
theorem sl_bk {s N : Nat} {v : AV} {cls : List Cl} {turn : Int} {stale : Bool} (k : Hs h0 (Bk b ps (SL s v N cls turn stale L)) h) : Hs h0 (SL s v N cls turn stale (Bk b ps L)) h :=
  k.perm (List.perm_append_comm_assoc (ScC s v turn stale :: LsC 4 v (cls.map Cl.row) :: rings N cls) (Cell b (.rows 3 [ps.map (fun p : LP => p.1)] false none none) :: lsm ps) L).symm
end
end Go.Proofs.Ytdncenepmkbolaa
