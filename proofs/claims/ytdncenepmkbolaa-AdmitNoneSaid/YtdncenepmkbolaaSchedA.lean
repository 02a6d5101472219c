/-
  Rings, told of parts of the heap: what they have is told up to members that are none.
-/
import Derived.Test.YtdncenepmkbolaaAbsN
import Derived.Test.YtdncenepmkbolaaRingB
import Derived.Test.YtdncenepmkbolaaSc
namespace Go.Proofs.Ytdncenepmkbolaa
open Go Go.Abs Go.Abs.S Go.Abs.W
set_option maxRecDepth 10000
set_option maxHeartbeats 1000000

/-- a frame, up to members that are none -/
abbrev AF := List AV × List AV
def af (f : Fr) : AF := (f.p, f.q)
theorem af_same {f g : Fr} (h : f.same g) : af g = af f := by
  obtain ⟨h1, h2⟩ := h
  unfold af; rw [h1, h2]
/-- a ring, in one part -/
def RingC (r N : Nat) (qs : List AF) : Ch := fun h S => ∃ P first rs fs, RingAt h r P N first rs fs ∧ fs.map af = qs ∧ S = [r, P]
theorem RingAt.keep' {h h' : Go.Abs.H} {r P N first : Nat} {rs : List (List AV)} {fs : List Fr} {T : List Nat} (k : RingAt h r P N first rs fs) (hk : Keep h h' T) (h1 : r ∉ T) (h2 : P ∉ T) : RingAt h' r P N first rs fs :=
  ⟨by rw [hk.2 r k.rn h1]; exact k.ring, by rw [hk.2 P k.pn h2]; exact k.places, k.len, k.wide, k.n1, k.n2, k.f1, k.m1, k.at', k.ne, Nat.lt_of_lt_of_le k.rn hk.1, Nat.lt_of_lt_of_le k.pn hk.1⟩
theorem ringc_ok (r N : Nat) (qs : List AF) : Ok (RingC r N qs) := ⟨fun ⟨P, first, rs, fs, k, _, e⟩ x hx => by
  subst e; simp at hx
  rcases hx with rfl | rfl
  · exact k.rn
  · exact k.pn, fun ⟨P, first, rs, fs, k, e1, e⟩ hk hd => ⟨P, first, rs, fs, k.keep' hk (hd r (by rw [e]; simp)) (hd P (by rw [e]; simp)), e1, e⟩⟩
section
variable {h0 h : Go.Abs.H} {L : List Ch} {n r N : Nat} {qs rest : List AF} {a : AF}
theorem ring_many (k : Hs h0 (RingC r N qs :: L) h) : qs.length ≤ N ∧ 1 ≤ N ∧ N ≤ 64 := by
  obtain ⟨S, ⟨P, first, rs, fs, q, e, _⟩, _⟩ := k.read
  subst e; rw [List.length_map]
  exact ⟨q.m1, q.n1, q.n2⟩
theorem ring_len (hn : 1 ≤ n) (k : Hs h0 (RingC r N qs :: L) h) : callX env sums n 18 [.ptr r 0] h = some (.int .i64 qs.length, h) := by
  obtain ⟨S, ⟨P, first, rs, fs, q, e, _⟩, _⟩ := k.read
  subst e; rw [List.length_map]
  exact len_ok hn q
theorem ring_push_no (hn : 3 ≤ n) (k : Hs h0 (RingC r N qs :: L) h) (hf : N ≤ qs.length) (f : Fr) : ∃ h', callX env sums n 16 [.ptr r 0, .agg f.cs] h = some (.bool false, h') ∧ Hs h0 (RingC r N qs :: L) h' := by
  obtain ⟨S, ⟨P, first, rs, fs, q, e, _⟩, _⟩ := k.read
  subst e; rw [List.length_map] at hf
  obtain ⟨h', e, kp⟩ := push_no hn q hf f
  exact ⟨h', e, k.more kp⟩
theorem ring_push (hn : 3 ≤ n) (k : Hs h0 (RingC r N qs :: L) h) (hf : qs.length < N) (f : Fr) : ∃ h', callX env sums n 16 [.ptr r 0, .agg f.cs] h = some (.bool true, h') ∧ Hs h0 (RingC r N (qs ++ [af f]) :: L) h' := by
  obtain ⟨S, ⟨P, first, rs, fs, q, e, e2⟩, _, o1, _⟩ := k.out
  subst e e2; rw [List.length_map] at hf
  obtain ⟨g, rs', h', e, hs, q', kp⟩ := push_ok hn q hf f
  exact ⟨h', e, o1 _ h' [r, P] (ringc_ok ..) ⟨P, first, rs', _, q', by rw [List.map_append, List.map_cons, List.map_nil, af_same hs], rfl⟩ kp fun x hx => .inl hx⟩
theorem ring_front (hn : 5 ≤ n) (k : Hs h0 (RingC r N (a :: rest) :: L) h) : ∃ (g : Fr) (h' : Go.Abs.H), callX env sums n 22 [.ptr r 0] h = some (.tup [.agg g.cs, .bool true], h') ∧ af g = a ∧ Hs h0 (RingC r N (a :: rest) :: L) h' := by
  obtain ⟨S, ⟨P, first, rs, fs, q, e, _⟩, _⟩ := k.read
  cases fs with
  | nil => cases e
  | cons f fs =>
    cases e
    obtain ⟨g, h', e, hs, kp⟩ := front_ok hn q
    exact ⟨g, h', e, af_same hs, k.more kp⟩
theorem ring_front_no (hn : 5 ≤ n) (k : Hs h0 (RingC r N [] :: L) h) : ∃ (h' : Go.Abs.H), callX env sums n 22 [.ptr r 0] h = some (.tup [.agg zeroC, .bool false], h') ∧ Hs h0 (RingC r N [] :: L) h' := by
  obtain ⟨S, ⟨P, first, rs, fs, q, e, _⟩, _⟩ := k.read
  cases fs with
  | cons f fs => cases e
  | nil =>
    obtain ⟨h', e, kp⟩ := front_no hn q
    exact ⟨h', e, k.more kp⟩
theorem ring_pop (hn : 6 ≤ n) (k : Hs h0 (RingC r N (a :: rest) :: L) h) : ∃ (g : Fr) (h' : Go.Abs.H), callX env sums n 17 [.ptr r 0] h = some (.tup [.agg g.cs, .bool true], h') ∧ af g = a ∧ Hs h0 (RingC r N rest :: L) h' := by
  obtain ⟨S, ⟨P, first, rs, fs, q, e, e2⟩, _, o1, _⟩ := k.out
  subst e2
  cases fs with
  | nil => cases e
  | cons f fs =>
    cases e
    obtain ⟨g, rs', h', e, hs, q', kp⟩ := pop_ok hn q
    exact ⟨g, h', e, af_same hs, o1 _ h' [r, P] (ringc_ok ..) ⟨P, _, rs', _, q', rfl, rfl⟩ kp fun x hx => .inl hx⟩
theorem ring_at (hn : 4 ≤ n) (k : Hs h0 (RingC r N qs :: L) h) {i : Nat} (hi : qs[i]? = some a) : ∃ (g : Fr) (h' : Go.Abs.H), callX env sums n 24 [.ptr r 0, .int .i64 i] h = some (.tup [.agg g.cs, .bool true], h') ∧ af g = a ∧ Hs h0 (RingC r N qs :: L) h' := by
  obtain ⟨S, ⟨P, first, rs, fs, q, e, _⟩, _⟩ := k.read
  subst e
  rw [List.getElem?_map, Option.map_eq_some_iff] at hi
  obtain ⟨f, hf, rfl⟩ := hi
  obtain ⟨g, h', e, hs, kp⟩ := at_ok hn q hf
  exact ⟨g, h', e, af_same hs, k.more kp⟩
theorem ring_new (hn : 1 ≤ n) (k : Hs h0 L h) (h1 : 1 ≤ N) (h2 : N ≤ 64) : ∃ (r : Nat) (h' : Go.Abs.H), callX env sums n 14 [.int .i64 N] h = some (.tup [.ptr r 0, .int .i64 0], h') ∧ Hs h0 (RingC r N [] :: L) h' := by
  obtain ⟨rs, h', e, q, kp⟩ := new_ok (h := h) hn h1 h2
  exact ⟨h.n + 1, h', e, k.add (ringc_ok ..) kp (S' := [h.n + 1, h.n]) ⟨h.n, 0, rs, [], q, rfl, rfl⟩ fun x hx => by simp at hx; omega⟩
end

/-! the classes -/
structure Cl where
  r : Nat
  q : Int
  cr : Int
  sv : Int
  qs : List AF
def Cl.row (c : Cl) : List AV := [.ptr c.r 0, .int .i64 c.q, .int .i64 c.cr, .int .i64 c.sv]
def rings (N : Nat) (cls : List Cl) : List Ch := cls.map fun c => RingC c.r N c.qs
theorem Cl.rlen (c : Cl) : c.row.length = 4 := rfl
theorem cls_split {cls : List Cl} {i : Nat} {c : Cl} (h : cls[i]? = some c) : cls = cls.take i ++ c :: cls.drop (i + 1) := by
  have hl := (List.getElem?_eq_some_iff.1 h).1
  rw [List.getElem?_eq_getElem hl] at h; cases h
  rw [← List.drop_eq_getElem_cons hl, List.take_append_drop]
theorem set_split {cls : List Cl} {i : Nat} (c' : Cl) (h : i < cls.length) : cls.set i c' = cls.take i ++ c' :: cls.drop (i + 1) := by
  rw [List.set_eq_take_append_cons_drop, if_pos h]
section
variable {h0 h : Go.Abs.H} {A B : Ch} {L : List Ch} {N i : Nat} {cls : List Cl} {c c' : Cl}
/-- a class's ring to the front -/
theorem ring_out (hi : cls[i]? = some c) (k : Hs h0 (A :: B :: (rings N cls ++ L)) h) : Hs h0 (RingC c.r N c.qs :: A :: B :: (rings N (cls.take i ++ cls.drop (i + 1)) ++ L)) h := by
  have e : rings N cls ++ L = rings N (cls.take i) ++ RingC c.r N c.qs :: (rings N (cls.drop (i + 1)) ++ L) := by
    conv => lhs; rw [cls_split hi]
    simp [rings, List.map_append]
  rw [e] at k
  have e2 : rings N (cls.take i ++ cls.drop (i + 1)) ++ L = rings N (cls.take i) ++ (rings N (cls.drop (i + 1)) ++ L) := by simp [rings, List.map_append]
  rw [e2]
  exact k.perm (((List.perm_middle.cons B).cons A).trans (((List.Perm.swap _ _ _).cons A).trans (List.Perm.swap _ _ _)))
theorem ring_in (hi : i < cls.length) (k : Hs h0 (RingC c'.r N c'.qs :: A :: B :: (rings N (cls.take i ++ cls.drop (i + 1)) ++ L)) h) : Hs h0 (A :: B :: (rings N (cls.set i c') ++ L)) h := by
  have e : rings N (cls.set i c') ++ L = rings N (cls.take i) ++ RingC c'.r N c'.qs :: (rings N (cls.drop (i + 1)) ++ L) := by
    rw [set_split c' hi]
    simp [rings, List.map_append]
  rw [e]
  have e2 : rings N (cls.take i ++ cls.drop (i + 1)) ++ L = rings N (cls.take i) ++ (rings N (cls.drop (i + 1)) ++ L) := by simp [rings, List.map_append]
  rw [e2] at k
  exact k.perm (((List.perm_middle.cons B).cons A).trans (((List.Perm.swap _ _ _).cons A).trans (List.Perm.swap _ _ _))).symm
theorem rows_set : (cls.map Cl.row).set i c'.row = (cls.set i c').map Cl.row := by rw [List.map_set]
theorem rows_get (hi : cls[i]? = some c) : (cls.map Cl.row)[i]? = some c.row := by rw [List.getElem?_map, hi]; rfl
end
end Go.Proofs.Ytdncenepmkbolaa
