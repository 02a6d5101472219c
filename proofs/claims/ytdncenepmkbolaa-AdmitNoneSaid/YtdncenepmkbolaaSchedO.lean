/-
  'SchedWorks': what expires, and the books of it.
-/
import Derived.Test.YtdncenepmkbolaaSchedN
namespace Go.Proofs.Ytdncenepmkbolaa
open Go Go.Abs Go.Abs.S Go.Abs.W
set_option maxRecDepth 10000
set_option maxHeartbeats 2000000
noncomputable def sq (a : AF) : Int := cI a.1 3
noncomputable def sqs (q : List AF) : List Int := q.map sq
/-- a queue's numbers rise, and are its deadlines -/
def Up (i : Int) (q : List AF) : Prop := (sqs q).Pairwise (· < ·) ∧ ∀ a ∈ q, cI a.1 6 = sq a ∧ sq a < i
def Ups (i : Int) (cls : List Cl) : Prop := ∀ q ∈ QS cls, Up i q
theorem Up.sub {i j : Int} {q q' : List AF} (k : Up i q) (hs : q'.Sublist q) (hij : i ≤ j) : Up j q' :=
  ⟨k.1.sublist (hs.map sq), fun a ha => ⟨(k.2 a (hs.subset ha)).1, by have := (k.2 a (hs.subset ha)).2; omega⟩⟩
theorem Up.push {i : Int} {q : List AF} {a : AF} (k : Up i q) (h3 : cI a.1 3 = i) (h6 : cI a.1 6 = i) : Up (i + 1) (q ++ [a]) := by
  refine ⟨?_, fun b hb => ?_⟩
  · unfold sqs
    rw [List.map_append, List.pairwise_append]
    refine ⟨k.1, by simp, fun x hx y hy => ?_⟩
    simp at hy; subst hy
    rw [List.mem_map] at hx
    obtain ⟨b, hb, rfl⟩ := hx
    have := (k.2 b hb).2
    show sq b < cI a.1 3
    omega
  · rcases List.mem_append.1 hb with hb | hb
    · have := k.2 b hb; exact ⟨this.1, by omega⟩
    · rw [List.mem_singleton] at hb; subst hb
      unfold sq; omega
theorem Ups.mono {i j : Int} {cls : List Cl} (k : Ups i cls) (h : i ≤ j) : Ups j cls := fun q hq => (k q hq).sub (List.Sublist.refl _) h
theorem Ups.set {i : Int} {cls cls' : List Cl} {c : Nat} {q : List AF} (k : Ups i cls) (e : QS cls' = (QS cls).set c q) (hq : Up i q) : Ups i cls' := by
  intro x hx
  rw [e] at hx
  rcases List.mem_or_eq_of_mem_set hx with h | rfl
  · exact k x h
  · exact hq
theorem Up.part {i now : Int} {d r : List AF} (k : Up i (d ++ r)) (hd : ∀ a ∈ d, late now a = true) (hr : ∀ (a : AF) (r' : List AF), r = a :: r' → late now a = false) : (d ++ r).filter (late now) = d ∧ (d ++ r).filter (fun a => !late now a) = r := by
  have hall : ∀ a ∈ r, late now a = false := by
    cases r with
    | nil => simp
    | cons b r' =>
      intro a ha
      have hb := hr b r' rfl
      unfold late at hb ⊢
      rw [decide_eq_false_iff_not] at hb ⊢
      have h1 := k.1
      unfold sqs at h1
      rw [List.map_append, List.pairwise_append, List.map_cons, List.pairwise_cons] at h1
      have kb := (k.2 b (by simp)).1
      have ka := (k.2 a (by simp only [List.mem_append]; exact .inr ha)).1
      rcases List.mem_cons.1 ha with rfl | ha
      · exact hb
      · have := h1.2.1.1 (sq a) (List.mem_map_of_mem ha)
        omega
  refine ⟨?_, ?_⟩
  · rw [List.filter_append, List.filter_eq_self.2 hd, List.filter_eq_nil_iff.2 (fun a ha => by simp [hall a ha]), List.append_nil]
  · rw [List.filter_append, List.filter_eq_nil_iff.2 (fun a ha => by simp [hd a ha]), List.filter_eq_self.2 (fun a ha => by simp [hall a ha]), List.nil_append]
theorem exp_step {now : Int} {cls : List Cl} {c : Nat} {cl : Cl} (hc : cls[c]? = some cl) : expG now (cls.take (c + 1)) = expG now (cls.take c) ++ cl.qs.filter (late now) := by
  unfold expG
  rw [List.take_add_one, hc]; simp
theorem exp_at {now : Int} {cls : List Cl} {c : Nat} {cl : Cl} {d r : List AF} {a : AF} (hc : cls[c]? = some cl) (hq : cl.qs = d ++ a :: r) (hd : ∀ a ∈ d, late now a = true) (ha : late now a = true) : (expG now cls)[(expG now (cls.take c)).length + d.length]? = some a := by
  have e : expG now cls = expG now (cls.take c) ++ (cl.qs.filter (late now) ++ expG now (cls.drop (c + 1))) := by
    conv => lhs; rw [cls_split hc]
    unfold expG
    simp
  rw [e, List.getElem?_append_right (by omega), hq, List.filter_append, List.filter_eq_self.2 hd, Nat.add_sub_cancel_left, List.filter_cons, if_pos ha, List.append_assoc, List.getElem?_append_right (by omega), Nat.sub_self]
  rfl
theorem ScOk.exp {N t : Nat} {cls : List Cl} {st : Bool} (k : ScOk N cls t st) (now : Int) : ScOk N (cls.map (expC now)) t st := by
  refine ⟨by simpa using k.ne, by simpa using k.le, by simpa using k.tlt, fun c hc => ?_, fun i c hc => ?_⟩
  · rw [List.mem_map] at hc
    obtain ⟨d, hd, rfl⟩ := hc
    have o := k.ok d hd
    refine ⟨o.q, ?_, o.sv, fun a ha => o.ops a (List.mem_filter.1 ha).1, ?_⟩
    · unfold expC; simp only; split
      · omega
      · exact o.cr
    · exact Nat.le_trans (List.length_filter_le ..) o.len
  · rw [List.getElem?_map, Option.map_eq_some_iff] at hc
    obtain ⟨d, hd, rfl⟩ := hc
    have o := k.cr i d hd
    have hq := (k.ok d (List.mem_of_getElem? hd)).q
    unfold expC; simp only
    split
    · split <;> omega
    · exact o
theorem exp_QS (now : Int) (cls : List Cl) : QS (cls.map (expC now)) = (QS cls).map fun q => q.filter fun a => !late now a := by
  simp only [QS, List.map_map]; rfl
theorem exp_QQ (now : Int) (cls : List Cl) : QQ (cls.map (expC now)) = QQ cls := by
  simp only [QQ, List.map_map]; rfl
theorem Ups.exp {i now : Int} {cls : List Cl} (k : Ups i cls) : Ups i (cls.map (expC now)) := by
  intro q hq
  rw [exp_QS, List.mem_map] at hq
  obtain ⟨q0, h0, rfl⟩ := hq
  exact (k q0 h0).sub List.filter_sublist (Int.le_refl _)
/-- the books while what is late is taken out of them: of the classes below c all of it -/
noncomputable def bkOf (now : Int) (c i : Nat) (q : List AF) : List Int := if i < c then sqs (q.filter fun a => !late now a) else sqs q
def BkE (now : Int) (cls : List Cl) (c : Nat) (ps : List LP) : Prop := ps.length = 3 ∧ ∀ (i : Nat) (q : List AF) (p : LP), (QS cls)[i]? = some q → ps[i]? = some p → p.2 = bkOf now c i q
theorem bke_start {now : Int} {cls : List Cl} {ps : List LP} (k : Bks cls ps) : BkE now cls 0 ps := ⟨k.2.1, fun i q p h1 h2 => by rw [← (k.2.2 i q p h1 h2).1]; unfold bkOf; rw [if_neg (by omega)]; rfl⟩
theorem bke_end {now : Int} {cls : List Cl} {ps ps0 : List LP} (k0 : Bks cls ps0) (k : BkE now cls 3 ps) : Bks (cls.map (expC now)) ps := by
  refine ⟨by simpa using k0.1, k.1, fun i q p h1 h2 => ?_⟩
  rw [exp_QS, List.getElem?_map, Option.map_eq_some_iff] at h1
  obtain ⟨q0, h0, rfl⟩ := h1
  have hi : i < 3 := by have := (List.getElem?_eq_some_iff.1 h2).1; have := k.1; omega
  obtain ⟨p0, hp0⟩ : ∃ p0, ps0[i]? = some p0 := ⟨ps0[i]'(by rw [k0.2.1]; exact hi), List.getElem?_eq_getElem _⟩
  have hs := k0.2.2 i q0 p0 h0 hp0
  have := k.2 i q0 p h0 h2
  unfold bkOf at this
  rw [if_pos hi] at this
  exact ⟨this.symm, fun a ha => hs.2 a (List.mem_filter.1 ha).1⟩
theorem bke_set {now : Int} {cls : List Cl} {c : Nat} {ps : List LP} {q : List AF} {p : LP} (k : ps.length = 3 ∧ ∀ (i : Nat) (q : List AF) (p : LP), i ≠ c → (QS cls)[i]? = some q → ps[i]? = some p → p.2 = bkOf now c i q) (hq : (QS cls)[c]? = some q) (hp : ps[c]? = some p) (e : p.2 = sqs (q.filter fun a => !late now a)) : BkE now cls (c + 1) ps := by
  refine ⟨k.1, fun i q' p' h1 h2 => ?_⟩
  by_cases hi : i = c
  · subst hi
    rw [hq] at h1; rw [hp] at h2; cases h1; cases h2
    rw [e]; unfold bkOf; rw [if_pos (by omega)]
  · rw [k.2 i q' p' hi h1 h2]
    unfold bkOf
    by_cases hlt : i < c
    · rw [if_pos hlt, if_pos (by omega)]
    · rw [if_neg hlt, if_neg (by omega)]
section
variable {h0 h : Go.Abs.H} {L : List Ch} {b i : Nat} {ps : List LP} {p : LP}
/-- a list of one's own is put into the books -/
theorem bk_put {w : AV} {ys : List Int} (k : Hs h0 (LsC 1 w (qrows ys) :: Bk b ps L) h) (hi : i < ps.length) (h3 : ps.length = 3) : w.one = true ∧ ∃ h', storeB h b (i * 1) [w] (h.get b) = some h' ∧ Hs h0 (Bk b (ps.set i (w, ys)) L) h' := by
  obtain ⟨p, hp⟩ : ∃ p, ps[i]? = some p := ⟨ps[i], List.getElem?_eq_getElem hi⟩
  have k1 : Hs h0 (Cell b (.rows 3 [ps.map (·.1)] false none none) :: (lsm ps ++ LsC 1 w (qrows ys) :: L)) h := bk_in k
  have k2 := (lp_out hp k1).drop
  have e3 : (ps.map (·.1)).length = 3 := by simpa using h3
  have kp := k2.put (.rows 3 [(ps.map (·.1)).set i w] false none none)
  refine ⟨k.one, h.put b (.rows 3 [(ps.map (·.1)).set i w] false none none), ?_, ?_⟩
  · have := storeB_one (b := b) (i := i) (x := w) h (r := ps.map (·.1)) (by simpa using hi)
    rw [e3] at this
    rw [k2.get, Nat.mul_one, this]
  · have km : Hs h0 (LsC 1 w (qrows ys) :: Cell b (.rows 3 [(ps.map (·.1)).set i w] false none none) :: (lsm (ps.take i ++ ps.drop (i + 1)) ++ L)) (h.put b (.rows 3 [(ps.map (·.1)).set i w] false none none)) :=
      kp.perm ((List.Perm.trans (List.perm_middle.cons _) (List.Perm.swap _ _ _)))
    have := lp_in (p' := (w, ys)) hi km
    unfold Bk
    rw [List.map_set]
    exact this
end
end Go.Proofs.Ytdncenepmkbolaa
