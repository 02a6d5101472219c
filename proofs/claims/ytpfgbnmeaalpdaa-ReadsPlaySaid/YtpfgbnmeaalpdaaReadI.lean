/-
  Reads: the program's functions and the document's, told of parts of the heap.
-/
import Derived.Test.YtpfgbnmeaalpdaaReadH
namespace Go.Proofs.Ytpfgbnmeaalpdaa
open Go Go.Abs Go.Abs.S Go.Abs.W
set_option maxRecDepth 10000
set_option maxHeartbeats 1000000

/-- what waits, in one part -/
def RdC (r : Nat) (cap last : Int) (rows : List (List AV)) : Ch := fun h S => ∃ v T, RdAt h r cap last v rows T ∧ S = r :: T
theorem RdC.ok (r : Nat) (cap last : Int) (rows : List (List AV)) : Ok (RdC r cap last rows) := ⟨fun ⟨v, T, k, e⟩ x hx => by
  subst e
  rcases List.mem_cons.1 hx with rfl | hx
  · exact k.rn
  · exact k.lst.lt x hx, fun ⟨v, T, k, e⟩ hk hd => ⟨v, T, k.keep hk (hd r (by rw [e]; simp)) fun x hx => hd x (by rw [e]; simp [hx]), e⟩⟩
structure RdP (cap : Int) (rows : List (List AV)) : Prop where
  wide : ∀ x ∈ rows, x.length = 34
  c1 : 1 ≤ cap
  many : rows.length ≤ 1000
section
variable {h0 h : Go.Abs.H} {L : List Ch} {n : Nat} {r : Nat} {cap last : Int} {v : AV} {rows : List (List AV)}
theorem rd_open (k : Hs h0 (RdC r cap last rows :: L) h) : RdP cap rows ∧ ∃ v, v.one = true ∧ Hs h0 (Cell r (.rows 3 [[.int .i64 cap, v, .int .i64 last]] false none none) :: LsC 34 v rows :: L) h := by
  obtain ⟨S, ⟨v, T, q, rfl⟩, _, _, o2⟩ := k.out
  exact ⟨⟨q.wide, q.c1, q.many⟩, v, q.one, o2 _ _ h [r] T (cell_ok ..) (lsc_ok ..) ⟨rfl, q.at', q.rn⟩ ⟨q.lst, q.one⟩ (Keep.refl h _) (fun x hx => by simp at hx; simp [hx]) fun x hx => ⟨.inl (List.mem_cons_of_mem _ hx), fun e => by simp at e; subst e; exact q.rS hx⟩⟩
theorem rd_close (k : Hs h0 (Cell r (.rows 3 [[.int .i64 cap, v, .int .i64 last]] false none none) :: LsC 34 v rows :: L) h) (p : RdP cap rows) : Hs h0 (RdC r cap last rows :: L) h :=
  k.merge (RdC.ok ..) fun S T ⟨e, k1, k2⟩ ⟨k3, k4⟩ hd => ⟨v, T, ⟨k1, k3, fun e' => hd r e' (by rw [e]; simp), k2, p.wide, p.c1, p.many, k4⟩, by rw [e]; rfl⟩

theorem none_h (hn : 1 ≤ n) (k : Hs h0 (RdC r cap last rows :: L) h) : callX env sums n 60 [.ptr r 0] h = some (.bool false, h) := by
  obtain ⟨S, ⟨v, T, q, _⟩, _⟩ := k.read
  exact none_no hn q
theorem rlen_h (hn : 2 ≤ n) (k : Hs h0 (RdC r cap last rows :: L) h) : callX env sums n 16 [.ptr r 0] h = some (.int .i64 rows.length, h) := by
  obtain ⟨S, ⟨v, T, q, _⟩, _⟩ := k.read
  exact rlen_ok hn q

/-- what taking out comes to -/
def TakeP (h0 : Go.Abs.H) (L : List Ch) (r : Nat) (cap last : Int) (rows : List (List AV)) (p : List AV → Bool) (vo : AV) (h' : Go.Abs.H) : Prop :=
  Hs h0 (LsC 34 vo (rows.filter p) :: RdC r cap last (rows.filter fun x => !p x) :: L) h'
theorem take_h {f : FuncId} {args : List AV} {p : List AV → Bool} (k : Hs h0 (RdC r cap last rows :: L) h)
    (c : ∀ v S, RdAt h r cap last v rows S → ∃ vo vs h' So Ss, callX env sums n f args h = some (vo, h') ∧ Lst h' 34 vo (rows.filter p) So ∧ RdAt h' r cap last vs (rows.filter fun x => !p x) Ss ∧ Keep h h' [r] ∧ (∀ x ∈ So, h.n ≤ x) ∧ (∀ x ∈ Ss, h.n ≤ x ∧ x ∉ So)) :
    ∃ vo h', callX env sums n f args h = some (vo, h') ∧ TakeP h0 L r cap last rows p vo h' := by
  obtain ⟨S, ⟨v, T, q, rfl⟩, _, _, o2⟩ := k.out
  obtain ⟨vo, vs, h', So, Ss, e, q1, q2, q3, q4, q5⟩ := c v T q
  have hone : vo.one = true := by
    rcases q1 with ⟨_, rfl | ⟨b, rfl, _⟩, _⟩ | ⟨b, p, pre, rfl, _⟩ <;> rfl
  have hr := q.rn
  refine ⟨vo, h', e, o2 (LsC 34 vo (rows.filter p)) (RdC r cap last _) h' So (r :: Ss) (lsc_ok ..) (RdC.ok ..) ⟨q1, hone⟩ ⟨vs, Ss, q2, rfl⟩ (q3.mono (by simp)) (fun x hx => .inr (q4 x hx)) fun x hx => ?_⟩
  rcases List.mem_cons.1 hx with rfl | hx
  · exact ⟨.inl (by simp), fun e => by have := q4 _ e; omega⟩
  · exact ⟨.inr (q5 x hx).1, (q5 x hx).2⟩
theorem flush_h (hn : 1011 ≤ n) (k : Hs h0 (RdC r cap last rows :: L) h) : ∃ vo h', callX env sums n 12 [.ptr r 0] h = some (vo, h') ∧ Hs h0 (LsC 34 vo rows :: RdC r cap last [] :: L) h' := by
  obtain ⟨vo, h', e, q⟩ := take_h (f := 12) (args := [.ptr r 0]) (p := fun _ => true) k fun v S q => by
    obtain ⟨vo, vs, h', So, Ss, e, q1, q2, q3⟩ := flush_ok hn q
    exact ⟨vo, vs, h', So, Ss, e, by rw [List.filter_eq_self.2 (by simp)]; exact q1, by rw [List.filter_eq_nil_iff.2 (by simp)]; exact q2, q3⟩
  refine ⟨vo, h', e, ?_⟩
  unfold TakeP at q
  rw [List.filter_eq_self.2 (by simp), List.filter_eq_nil_iff.2 (by simp)] at q
  exact q
theorem sure_h (hn : 1011 ≤ n) (k : Hs h0 (RdC r cap last rows :: L) h) (hr : Rows rows) (x : Int) : ∃ vo h', callX env sums n 13 [.ptr r 0, .int .i64 x] h = some (vo, h') ∧ TakeP h0 L r cap last rows (idI fun a => decide (a ≤ x)) vo h' :=
  take_h k fun _ _ q => sure_ok hn q hr x
theorem expire_h (hn : 1011 ≤ n) (k : Hs h0 (RdC r cap last rows :: L) h) (hr : Rows rows) (x : Int) : ∃ vo h', callX env sums n 14 [.ptr r 0, .int .i64 x] h = some (vo, h') ∧ TakeP h0 L r cap last rows (dlI fun a => decide (a < x)) vo h' :=
  take_h k fun _ _ q => expire_ok hn q hr x
theorem put_h (hn : 2 ≤ n) (k : Hs h0 (RdC r cap last rows :: L) h) (hc : cap ≤ 16) (hl : 0 ≤ last ∧ last ≤ 1000000) {f x : List AV} (h1 : f.length = 29) (h2 : x.length = 4) :
    ∃ h', callX env sums n 15 [.ptr r 0, .agg f, .agg x] h = some (if (rows.length : Int) < cap then .tup [.int .i64 (last + 1), .int .i64 0] else .tup [.int .i64 0, .int .i64 60], h') ∧
      Hs h0 (RdC r cap (if (rows.length : Int) < cap then last + 1 else last) (if (rows.length : Int) < cap then rows ++ [.int .i64 (last + 1) :: (f ++ x)] else rows) :: L) h' := by
  obtain ⟨S, ⟨v, T, q, rfl⟩, _, o1, _⟩ := k.out
  by_cases hf : (rows.length : Int) < cap
  · obtain ⟨v', h', S', e, q1, q2, q3⟩ := put_ok hn q hf hc hl h1 h2
    simp only [if_pos hf]
    refine ⟨h', e, o1 _ h' (r :: S') (RdC.ok ..) ⟨v', S', q1, rfl⟩ q2 fun x hx => ?_⟩
    rcases List.mem_cons.1 hx with rfl | hx
    · exact .inl (by simp)
    · exact (q3 x hx).imp (List.mem_cons_of_mem _) id
  · obtain ⟨h', e, q2⟩ := put_no hn q (by omega) h1 h2
    simp only [if_neg hf]
    exact ⟨h', e, k.more q2⟩

/-- the last one's number -/
noncomputable def lastV (rows : List (List AV)) : AV := match rows.getLast? with
  | some x => .tup [.int .i64 (idV x), .bool true]
  | none => .tup [.int .i64 0, .bool false]
where idV (x : List AV) : Int := match nth x 0 with
  | some (.int .i64 n) => n
  | _ => 0
theorem lastV_some {rows : List (List AV)} {x : List AV} {a : Int} (h : rows[rows.length - 1]? = some x) (ha : nth x 0 = some (.int .i64 a)) : lastV rows = .tup [.int .i64 a, .bool true] := by
  unfold lastV
  rw [List.getLast?_eq_getElem?, h]
  simp only [lastV.idV, ha]
theorem last_h (hn : 3 ≤ n) (k : Hs h0 (RdC r cap last rows :: L) h) (hr : Rows rows) : ∃ h', callX env sums n 24 [.ptr r 0] h = some (lastV rows, h') ∧ Keep h h' [] := by
  obtain ⟨n, rfl⟩ : ∃ k, n = k + 1 := ⟨n - 1, by omega⟩
  obtain ⟨p, v, ho, k2⟩ := rd_open k
  have hm := p.many
  have g := k2.get
  have s := k2.at2.sl
  suffices hh : W.Spec env sums (n + 1) 24 [.ptr r 0] h (fun a h' => a = lastV rows ∧ Keep h h' []) by
    obtain ⟨a, h', e, rfl, q⟩ := hh; exact ⟨h', e, q⟩
  refine spec_trN [.ptr r 0] rfl ft24 (by kernel_rfl) (tn24 ..) ?_
  by_cases hz : rows = []
  · subst hz
    simp (disch := (first | omega | assumption | rfl | (simp only [hn_new, hn_put, skip_n]; omega))) only [go_sem, heapN, rlen_h (n := n) (by omega) k]
    exact ⟨rfl, Keep.refl h _⟩
  · have hl : 0 < rows.length := List.length_pos_iff.2 hz
    obtain ⟨x, hx⟩ : ∃ x, rows[rows.length - 1]? = some x := ⟨rows[rows.length - 1], List.getElem?_eq_getElem (by omega)⟩
    obtain ⟨b, o, e1, _, e3, _⟩ := s.idx hx
    obtain ⟨hw, ⟨a, ha⟩, _⟩ := hr x (List.mem_of_getElem? hx)
    have g0 : cellG o (h.get b) = some (.int .i64 a) := by have := e3 0 (by omega); rw [cellQ_some _ _ _ (by omega), ha] at this; exact this
    have e1' : idxS 34 v ((rows.length : Int) - 1) = some (b, o) := by rw [← e1]; congr 1; omega
    have hne : ¬ (rows.length : Int) = 0 := by omega
    simp (disch := (first | omega | assumption | rfl | (simp only [hn_new, hn_put, skip_n]; omega))) only [go_sem, heapN, rlen_h (n := n) (by omega) k, hne, g, s.len, e1', g0, lastV_some hx ha]
    exact (Keep.refl h _).skip _

/-! the document's -/
theorem new_q (hn : 1 ≤ n) : callX env sums n 17 [.int .i64 cap] h = some (if 1 ≤ cap ∧ cap ≤ 16 then (.tup [.ptr h.n 0, .int .i64 0], h.new (.rows 3 [[.int .i64 cap, .nils, .int .i64 0]] false none none)) else (.tup [.nilp, .int .i64 2], h)) := by
  obtain ⟨n, rfl⟩ : ∃ k, n = k + 1 := ⟨n - 1, by omega⟩
  have : ∀ v h', W.Spec env sums (n + 1) 17 [.int .i64 cap] h (fun a b => a = v ∧ b = h') → callX env sums (n + 1) 17 [.int .i64 cap] h = some (v, h') := fun v h' k => spec_eq k
  by_cases h1 : cap < 1
  · rw [if_neg (by omega)]
    refine spec_eq (spec_trN [.int .i64 cap] rfl ft17 (by kernel_rfl) (tn17 ..) ?_)
    simp (disch := (first | omega | assumption | rfl | (simp only [hn_new, hn_put, skip_n]; omega))) only [go_sem, heapN, AV.noTup]
  · by_cases h2 : 16 < cap
    · rw [if_neg (by omega)]
      refine spec_eq (spec_trN [.int .i64 cap] rfl ft17 (by kernel_rfl) (tn17 ..) ?_)
      simp (disch := (first | omega | assumption | rfl | (simp only [hn_new, hn_put, skip_n]; omega))) only [go_sem, heapN, AV.noTup]
    · rw [if_pos (by omega)]
      refine spec_eq (spec_trN [.int .i64 cap] rfl ft17 (by kernel_rfl) (tn17 ..) ?_)
      simp (disch := (first | omega | assumption | rfl | (simp only [hn_new, hn_put, skip_n]; omega))) only [go_sem, heapN, AV.noTup]
theorem new_p (hn : 1 ≤ n) : callX env sums n 11 [.int .i64 cap] h = some (if 1 ≤ cap ∧ cap ≤ 16 then (.tup [.ptr h.n 0, .int .i64 0], h.new (.rows 3 [[.int .i64 cap, .nils, .int .i64 0]] false none none)) else (.tup [.nilp, .int .i64 2], h)) := by
  obtain ⟨n, rfl⟩ : ∃ k, n = k + 1 := ⟨n - 1, by omega⟩
  by_cases h1 : cap < 1
  · rw [if_neg (by omega)]
    refine spec_eq (spec_tr [.int .i64 cap] rfl ft11 (by kernel_rfl) (tr11 ..) ?_)
    simp (disch := (first | omega | assumption | rfl | (simp only [hn_new, hn_put, skip_n]; omega))) only [go_sem, heapN, AV.noTup]
  · by_cases h2 : 16 < cap
    · rw [if_neg (by omega)]
      refine spec_eq (spec_tr [.int .i64 cap] rfl ft11 (by kernel_rfl) (tr11 ..) ?_)
      simp (disch := (first | omega | assumption | rfl | (simp only [hn_new, hn_put, skip_n]; omega))) only [go_sem, heapN, AV.noTup]
    · rw [if_pos (by omega)]
      refine spec_eq (spec_tr [.int .i64 cap] rfl ft11 (by kernel_rfl) (tr11 ..) ?_)
      simp (disch := (first | omega | assumption | rfl | (simp only [hn_new, hn_put, skip_n]; omega))) only [go_sem, heapN, AV.noTup]
theorem new_has (k : Hs h0 L h) (h1 : 1 ≤ cap) : Hs h0 (RdC h.n cap 0 [] :: L) (h.new (.rows 3 [[.int .i64 cap, .nils, .int .i64 0]] false none none)) :=
  rd_close (v := .nils) (((k.new _).at2' fun k => k.nil 34)) ⟨by simp, h1, by simp⟩
theorem flush_q (hn : 1 ≤ n) (k : Hs h0 (RdC r cap last rows :: L) h) : ∃ vo h', callX env sums n 21 [.ptr r 0] h = some (vo, h') ∧ Hs h0 (LsC 34 vo rows :: RdC r cap last [] :: L) h' := by
  obtain ⟨n, rfl⟩ : ∃ k, n = k + 1 := ⟨n - 1, by omega⟩
  obtain ⟨p, v, ho, k2⟩ := rd_open k
  have g := k2.get
  refine ⟨v, _, ?_, (rd_close (v := .nils) ((k2.put _).at2' fun k => k.nil 34) ⟨by simp, p.c1, by simp⟩).at2⟩
  refine spec_eq (spec_trN [.ptr r 0] rfl ft21 (by kernel_rfl) (tn21 ..) ?_)
  simp (disch := (first | omega | assumption | rfl | (simp only [hn_new, hn_put, skip_n]; omega))) only [go_sem, heapN, g]
theorem last_q (hn : 1 ≤ n) (k : Hs h0 (RdC r cap last rows :: L) h) (hr : Rows rows) : ∃ h', callX env sums n 25 [.ptr r 0] h = some (lastV rows, h') ∧ Keep h h' [] := by
  obtain ⟨n, rfl⟩ : ∃ k, n = k + 1 := ⟨n - 1, by omega⟩
  obtain ⟨p, v, ho, k2⟩ := rd_open k
  have hm := p.many
  have g := k2.get
  have s := k2.at2.sl
  suffices hh : W.Spec env sums (n + 1) 25 [.ptr r 0] h (fun a h' => a = lastV rows ∧ Keep h h' []) by
    obtain ⟨a, h', e, rfl, q⟩ := hh; exact ⟨h', e, q⟩
  refine spec_trN [.ptr r 0] rfl ft25 (by kernel_rfl) (tn25 ..) ?_
  by_cases hz : rows = []
  · subst hz
    have hsl : lenS v = some 0 := s.len
    simp (disch := (first | omega | assumption | rfl | (simp only [hn_new, hn_put, skip_n]; omega))) only [go_sem, heapN, g, hsl]
    exact ⟨rfl, Keep.refl h _⟩
  · have hl : 0 < rows.length := List.length_pos_iff.2 hz
    obtain ⟨x, hx⟩ : ∃ x, rows[rows.length - 1]? = some x := ⟨rows[rows.length - 1], List.getElem?_eq_getElem (by omega)⟩
    obtain ⟨b, o, e1, _, e3, _⟩ := s.idx hx
    obtain ⟨hw, ⟨a, ha⟩, _⟩ := hr x (List.mem_of_getElem? hx)
    have g0 : cellG o (h.get b) = some (.int .i64 a) := by have := e3 0 (by omega); rw [cellQ_some _ _ _ (by omega), ha] at this; exact this
    have e1' : idxS 34 v ((rows.length : Int) - 1) = some (b, o) := by rw [← e1]; congr 1; omega
    have hne : ¬ (rows.length : Int) = 0 := by omega
    simp (disch := (first | omega | assumption | rfl | (simp only [hn_new, hn_put, skip_n]; omega))) only [go_sem, heapN, hne, g, s.len, e1', g0, lastV_some hx ha]
    exact (Keep.refl h _).skip _
end
end Go.Proofs.Ytpfgbnmeaalpdaa
