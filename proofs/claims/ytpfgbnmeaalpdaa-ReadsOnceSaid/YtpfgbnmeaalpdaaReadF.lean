/-
  'ReadsOnce': one act.
-/
import Derived.Test.YtpfgbnmeaalpdaaReadE
namespace Go.Proofs.Ytpfgbnmeaalpdaa
open Go Go.Abs Go.Abs.S Go.Abs.W
set_option maxRecDepth 10000
set_option maxHeartbeats 1000000

abbrev zero35 : List AV := [AV.int IntKind.u8 (0 : Int), AV.int IntKind.i64 (0 : Int), AV.int IntKind.i64 (0 : Int), AV.int IntKind.i64 (0 : Int), AV.int IntKind.i64 (0 : Int), AV.int IntKind.i64 (0 : Int), AV.int IntKind.i64 (0 : Int), AV.int IntKind.i64 (0 : Int), AV.int IntKind.i64 (0 : Int), AV.str [], AV.str [], AV.int IntKind.i64 (0 : Int), AV.int IntKind.i64 (0 : Int), AV.str [], AV.int IntKind.i64 (0 : Int), AV.int IntKind.i64 (0 : Int), AV.int IntKind.i64 (0 : Int), AV.int IntKind.i64 (0 : Int), AV.int IntKind.i64 (0 : Int), AV.int IntKind.i64 (0 : Int), AV.int IntKind.i64 (0 : Int), AV.str [], AV.str [], AV.int IntKind.i64 (0 : Int), AV.int IntKind.i64 (0 : Int), AV.nils, AV.int IntKind.i64 (0 : Int), AV.int IntKind.i64 (0 : Int), AV.int IntKind.i64 (0 : Int), AV.int IntKind.i64 (0 : Int), AV.int IntKind.i64 (0 : Int), AV.str [], AV.int IntKind.i64 (0 : Int), AV.int IntKind.i64 (0 : Int), AV.int IntKind.i64 (0 : Int)]
noncomputable abbrev FrD (a tv vo : AV) (cap puts out : Int) (r : Nat) (i : Int) : T SV := frS [(1, .v a), (5, .int .i64 cap), (6, .ptr r 0), (8, .v tv), (9, .int .i64 puts), (10, .int .i64 out), (11, .int .i64 i), (12, .v vo)]

/-- ahead of each turn -/
structure JD (h0 : Go.Abs.H) (r tb L : Nat) (cap puts out : Int) (v : AV) (rows : List (List AV)) (S : List Nat) (h : Go.Abs.H) : Prop where
  ext : HExt h0 h
  r0 : h0.n ≤ r
  t0 : h0.n ≤ tb
  tr : tb ≠ r
  rd : RdAt h r cap puts v rows S
  ts : tb ∉ S
  s0 : ∀ x ∈ S, h0.n ≤ x
  told : ∃ told, Told h tb L told ∧ Untold told rows ∧ Fresh puts told
  good : AllGood puts rows
  rise : Rise rows
  many : (rows.length : Int) = puts - out
  out0 : 0 ≤ out
  full : (rows.length : Int) ≤ cap

theorem one3 {F : Nat} (hF : 1011 ≤ F) {Q : Ex → T SV → Go.Abs.H → Prop} {h0 h : Go.Abs.H} {r tb L : Nat} {cap puts out : Int} {i : Nat} {a v : AV} {rows xs : List (List AV)} {S : List Nat} {c : Nat}
    (j : JD h0 r tb L cap puts out v rows S h) (hsl : SlR h 35 a xs) (hrow : ∀ x ∈ xs, ShL h0 shAct x) (hL : L = xs.length + 1) (hL2 : L ≤ 200) (hi : i ≤ xs.length) (hp : puts ≤ i) (hc : cap ≤ 16)
    (kk : ∀ h' puts' vo vs got stay So Ss, (puts' = puts ∨ puts' = puts + 1) → (i = xs.length → stay = [] ∧ puts' = puts) → JK h0 r tb L cap puts' vo vs got stay So Ss 0 h' → (got.length + stay.length : Int) = puts' - out → (stay.length : Int) ≤ cap → Q .norm (FrD a (.sl tb 0 L c) vo cap puts' out r i) h') :
    EvX env (callX env sums F) F (sub [1, 1, 1, 1, 1, 1, 1, 0, 1, 0, 0, 1, 0, 0, 1, 0] (bodyOf Try.f3)) (FrD a (.sl tb 0 L c) .nils cap puts out r i) h Q := by
  obtain ⟨told, ht, hu, hfr⟩ := j.told
  have hm := j.many
  have h00 := j.out0
  have hfull := j.full
  refine ev_tr (tr3k ..) ?_
  -- what a taking gives
  have taken : ∀ (h1 : Go.Abs.H), Keep h h1 [] → ∀ (p : List AV → Bool) vo vs h' So Ss, Lst h' 34 vo (rows.filter p) So → RdAt h' r cap puts vs (rows.filter fun x => !p x) Ss → Keep h1 h' [r] → (∀ x ∈ So, h1.n ≤ x) → (∀ x ∈ Ss, h1.n ≤ x ∧ x ∉ So) →
      JK h0 r tb L cap puts vo vs (rows.filter p) (rows.filter fun x => !p x) So Ss 0 h' := by
    intro h1 k1 p vo vs h' So Ss q1 q2 q3 q4 q5
    have kh := (k1.mono (S' := [r]) (by simp)).trans q3
    have hn := j.ext.1
    have hn1 := k1.1
    have htl := ht.lt
    have pp := part_of j.good j.rise hu p
    refine ⟨W.HExt.keep j.ext kh (by simp; exact j.r0), j.r0, j.t0, j.tr, q2, q1, fun e => by have := (q5 tb e).1; omega, fun e => by have := q4 tb e; omega, fun x hx => by have := (q5 x hx).1; omega, fun x hx => by have := q4 x hx; omega, ⟨told, ⟨by rw [kh.2 tb htl (by simp; exact j.tr)]; exact ht.at', ht.len, ht.wide, Nat.lt_of_lt_of_le htl kh.1⟩, by simpa using pp, hfr⟩, pp.g1, pp.r1⟩
  have flen : ∀ p : List AV → Bool, ((rows.filter p).length + (rows.filter fun x => !p x).length : Int) = puts - out ∧ ((rows.filter fun x => !p x).length : Int) ≤ cap := fun p => by
    have := filter_len p rows
    omega
  by_cases hie : (i : Int) = xs.length
  · obtain ⟨vo, vs, h', So, Ss, e, q1, q2, q3, q4, q5⟩ := flush_ok (n := F) hF j.rd
    simp (disch := (first | omega | assumption | rfl | (simp only [hn_new, hn_put, skip_n]; omega))) only [go_sem, hsl.len, e]
    have ft := List.filter_eq_self.2 (fun (x : List AV) (_ : x ∈ rows) => (rfl : (fun _ : List AV => true) x = true))
    have ff := List.filter_eq_nil_iff.2 (fun (x : List AV) (_ : x ∈ rows) => (by simp : ¬ (fun x => !(fun _ : List AV => true) x) x = true))
    have tk := taken h (Keep.refl h _) (fun _ => true) vo vs h' So Ss (by rw [ft]; exact q1) (by rw [ff]; exact q2) q3 q4 q5
    have fl := flen fun _ => true
    rw [ft, ff] at tk fl
    exact kk h' puts vo vs rows [] So Ss (.inl rfl) (fun _ => ⟨rfl, rfl⟩) tk fl.1 fl.2
  have hlt : i < xs.length := by omega
  obtain ⟨x, hx⟩ : ∃ x, xs[i]? = some x := ⟨xs[i], List.getElem?_eq_getElem hlt⟩
  have hsh := hrow x (List.mem_of_getElem? hx)
  obtain ⟨b, o, e1, e2, _, _⟩ := hsl.idx hx
  have xl : x.length = 35 := by rw [ShL_len _ _ hsh, actlen]
  obtain ⟨_, f0, kd, rfl, kd0, kd1⟩ := ShL_nth _ _ _ _ hsh act0
  obtain ⟨_, f7, dl, rfl, dl0, dl1⟩ := ShL_nth _ _ _ _ hsh act7
  obtain ⟨_, f34, nn, rfl, nn0, nn1⟩ := ShL_nth _ _ _ _ hsh act34
  have ov : over x zero35 = some x := over_full xl
  obtain ⟨h1, e3⟩ : ∃ h1, h.new (.rows 35 [x] false none none) = h1 := ⟨_, rfl⟩
  have k1 : Keep h h1 [] := e3 ▸ (Keep.refl h _).new _
  have hb : h1.get h.n = some (.rows 35 [x] false none none) := e3 ▸ get_new_same _ _
  have rd1 := j.rd.keep k1 (by simp) (by simp)
  have no9 : ¬ (9 : Int) = 0 := by omega
  have nie : ∀ {α : Prop}, i = xs.length → α := fun e => by omega
  by_cases c5 : kd.tmod 9 = 5
  · obtain ⟨vo, vs, h', So, Ss, e, q1, q2, q3, q4, q5⟩ := sure_ok (n := F) hF rd1 j.good.rows nn
    simp (disch := (first | omega | assumption | rfl | (simp only [hn_new, hn_put, skip_n]; omega))) only [go_sem, hsl.len, e1, e2, ov, xl, e3, hb, f0, f34, no9, c5, e]
    exact kk h' puts vo vs _ _ So Ss (.inl rfl) (fun e => nie e) (taken h1 k1 _ vo vs h' So Ss q1 q2 q3 q4 q5) (flen _).1 (flen _).2
  by_cases c6 : kd.tmod 9 = 6
  · obtain ⟨vo, vs, h', So, Ss, e, q1, q2, q3, q4, q5⟩ := expire_ok (n := F) hF rd1 j.good.rows nn
    simp (disch := (first | omega | assumption | rfl | (simp only [hn_new, hn_put, skip_n]; omega))) only [go_sem, hsl.len, e1, e2, ov, xl, e3, hb, f0, f34, no9, e]
    exact kk h' puts vo vs _ _ So Ss (.inl rfl) (fun e => nie e) (taken h1 k1 _ vo vs h' So Ss q1 q2 q3 q4 q5) (flen _).1 (flen _).2
  by_cases c7 : kd.tmod 9 = 7
  · obtain ⟨vo, vs, h', So, Ss, e, q1, q2, q3, q4, q5⟩ := flush_ok (n := F) hF rd1
    simp (disch := (first | omega | assumption | rfl | (simp only [hn_new, hn_put, skip_n]; omega))) only [go_sem, hsl.len, e1, e2, ov, xl, e3, hb, f0, no9, e]
    have ft := List.filter_eq_self.2 (fun (x : List AV) (_ : x ∈ rows) => (rfl : (fun _ : List AV => true) x = true))
    have ff := List.filter_eq_nil_iff.2 (fun (x : List AV) (_ : x ∈ rows) => (by simp : ¬ (fun x => !(fun _ : List AV => true) x) x = true))
    have tk := taken h1 k1 (fun _ => true) vo vs h' So Ss (by rw [ft]; exact q1) (by rw [ff]; exact q2) q3 q4 q5
    have fl := flen fun _ => true
    rw [ft, ff] at tk fl
    exact kk h' puts vo vs rows [] So Ss (.inl rfl) (fun e => nie e) tk fl.1 fl.2
  have hn := j.ext.1
  have hn1 := k1.1
  have htl := ht.lt
  by_cases hful : (rows.length : Int) < cap
  · obtain ⟨v', h', S', e, q1, q2, q3⟩ := put_ok (n := F) (by omega) rd1 hful hc (by omega) (f := putF (puts + 1) dl) (x := putX (puts + 1)) rfl rfl
    simp (disch := (first | omega | assumption | rfl | (simp only [hn_new, hn_put, skip_n]; omega))) only [go_sem, hsl.len, e1, e2, ov, xl, e3, hb, f0, f7, no9, e]
    have kh := (k1.mono (S' := r :: S) (by simp)).trans q2
    have htS : tb ∉ r :: S := fun e => by
      rcases List.mem_cons.1 e with e | e
      · exact j.tr e
      · exact j.ts e
    have hlen := ht.len
    refine kk h' (puts + 1) .nils v' [] _ [] S' (.inr rfl) (fun e => nie e) ⟨W.HExt.keep j.ext kh (fun x hx => by
        rcases List.mem_cons.1 hx with rfl | hx
        · exact j.r0
        · exact j.s0 x hx), j.r0, j.t0, j.tr, q1, Lst.nil _ _, fun e => by
        rcases q3 tb e with e | e
        · exact j.ts e
        · omega, by simp, fun x hx => by
        rcases q3 x hx with e | e
        · exact j.s0 x e
        · omega, by simp, ⟨told, ⟨by rw [kh.2 tb htl htS]; exact ht.at', ht.len, ht.wide, Nat.lt_of_lt_of_le htl kh.1⟩, part_nil ?_ ?_ ?_, fun m h1 h2 => hfr m (by omega) h2⟩, fun _ h => (by cases h), .nil⟩ ?_ ?_
    · intro y hy
      rcases List.mem_append.1 hy with hy | hy
      · exact good_more (j.good y hy)
      · simp at hy; subst hy; exact good_put (by omega)
    · exact rise_more j.good j.rise rfl
    · intro y hy
      rcases List.mem_append.1 hy with hy | hy
      · exact hu y hy
      · simp at hy; subst hy
        show told[(puts + 1 : Int).toNat]? = _
        exact hfr _ (by omega) (by omega)
    · simp; omega
    · simp; omega
  · obtain ⟨h', e, q2⟩ := put_no (n := F) (by omega) rd1 (by omega) (f := putF (puts + 1) dl) (x := putX (puts + 1)) rfl rfl
    simp (disch := (first | omega | assumption | rfl | (simp only [hn_new, hn_put, skip_n]; omega))) only [go_sem, hsl.len, e1, e2, ov, xl, e3, hb, f0, f7, no9, e]
    have kh := k1.trans q2
    exact kk h' puts .nils v [] rows [] S (.inl rfl) (fun e => nie e) ⟨W.HExt.keep j.ext kh (by simp), j.r0, j.t0, j.tr, j.rd.keep kh (by simp) (by simp), Lst.nil _ _, j.ts, by simp, j.s0, by simp, ⟨told, ⟨by rw [kh.2 tb htl (by simp)]; exact ht.at', ht.len, ht.wide, Nat.lt_of_lt_of_le htl kh.1⟩, part_nil j.good j.rise hu, hfr⟩, fun _ h => (by cases h), .nil⟩ (by simp; omega) hfull
end Go.Proofs.Ytpfgbnmeaalpdaa
