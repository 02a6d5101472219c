/-
  THE RECKONING IS SOUND: what it comes to, the abstract machine comes to.
-/
import Derived.Test.YtdncenepmkbolaaAbsT
namespace Go.Abs.W
open Go Go.Abs Go.Abs.S

section
variable {E : Env} {call : CallF} {F : Nat}

theorem co_sound {ti : Option TI} {a : AV} {K : SV → Prop} (h : co (std E call F) ti a K) : ∃ s, s.av = a ∧ K s := by
  unfold co at h
  split at h
  · exact ⟨.v a, rfl, h⟩
  · split at h
    · obtain ⟨n, e, k⟩ := h; exact ⟨.int _ n, (Option.some.inj e).symm, k⟩
    · obtain ⟨n, e, k⟩ := h; exact ⟨.bool n, (Option.some.inj e).symm, k⟩
    · obtain ⟨n, e, k⟩ := h; exact ⟨.str n, (Option.some.inj e).symm, k⟩
    · obtain ⟨n, e, k⟩ := h; exact ⟨.agg n, (Option.some.inj e).symm, k⟩
    · obtain ⟨n, e, k⟩ := h; exact ⟨.agg n, (Option.some.inj e).symm, k⟩
    · exact ⟨.v a, rfl, h⟩

theorem ptr_sound {s : SV} {K : Nat → Nat → Prop} (h : asPtr (std E call F) s K) : ∃ b o, s.av = .ptr b o ∧ K b o := by
  unfold asPtr at h
  split at h
  · exact ⟨_, _, rfl, h⟩
  · obtain ⟨b, o, e, k⟩ := h; exact ⟨b, o, Option.some.inj e, k⟩
  · exact h.elim

theorem cellsN_one {a : AV} (h : a.one = true) : a.cellsN 1 = some [a] := by
  cases a <;> first | rfl | (simp [AV.one] at h)

theorem cells_sound {s : SV} {n : Nat} {K : List AV → Prop} (h : cellsW (std E call F) s n K) : ∃ cs, s.av.cellsN n = some cs ∧ K cs := by
  unfold cellsW at h
  split at h
  · rename_i cs
    obtain ⟨e, k⟩ := h
    refine ⟨cs, ?_, k⟩
    show (match Nat.beq (lenN cs) n with | true => some cs | false => none) = _
    rw [e]; simp
  · split at h
    · obtain ⟨e, k⟩ := h; exact ⟨_, cellsN_one e, k⟩
    · exact h.elim
  · split at h
    · split at h
      · rename_i e; exact ⟨_, cellsN_one e, h⟩
      · exact h.elim
    · exact h.elim
  · exact h.elim
  · rename_i h1 h2 h3 h4
    split at h
    · refine ⟨_, ?_, h⟩
      cases s <;> first | rfl | (exfalso; apply h1; rfl) | (exfalso; apply h2; rfl) | (exfalso; apply h3; rfl) | (exfalso; apply h4; rfl)
    · exact h.elim

theorem load_one {h : H} {b o : Nat} {v : AV} (e : cellOf h b o = some v) : h.load b o 1 = some [v] := by
  unfold cellOf at e
  split at e
  · cases e; assumption
  · cases e

theorem nth_sub {cs : List AV} {off : Nat} {v : AV} (e : nth cs off = some v) : takeN 1 (dropN off cs) = some [v] := by
  rw [nth_eq] at e
  rw [dropN_eq, takeN_eq]
  have h := List.getElem?_eq_some_iff.1 e
  obtain ⟨h1, h2⟩ := h
  refine ⟨by simp; omega, ?_⟩
  rw [List.drop_eq_getElem_cons h1, h2]; rfl

theorem cell_sound {ti : TI} {cs : List AV} {off : Nat} {K : SV → Prop} (h : cellW (std E call F) ti cs off K) : ∃ c s, takeN ti.size (dropN off cs) = some c ∧ mkV ti c = some s.av ∧ K s := by
  unfold cellW at h
  split at h
  · rename_i ha
    obtain ⟨c, e, k⟩ := h
    exact ⟨c, .agg c, e, by unfold mkV; rw [ha]; rfl, k⟩
  · rename_i ha
    have key : ∀ v : AV, nth cs off = some v → ∃ c, takeN 1 (dropN off cs) = some c ∧ mkV ti c = some v := fun v e => ⟨[v], nth_sub e, by unfold mkV; rw [ha]⟩
    split at h
    · rename_i hz
      rw [hz]
      split at h
      · obtain ⟨n, e, k⟩ := h; obtain ⟨c, k1, k2⟩ := key _ e; exact ⟨c, .int _ n, k1, k2, k⟩
      · obtain ⟨n, e, k⟩ := h; obtain ⟨c, k1, k2⟩ := key _ e; exact ⟨c, .bool n, k1, k2, k⟩
      · obtain ⟨n, e, k⟩ := h; obtain ⟨c, k1, k2⟩ := key _ e; exact ⟨c, .str n, k1, k2, k⟩
      · obtain ⟨n, e, k⟩ := h; obtain ⟨c, k1, k2⟩ := key _ e; exact ⟨c, .v n, k1, k2, k⟩
    · exact h.elim

theorem load_sound' {ti : TI} {h : H} {b o : Nat} {K : SV → Prop} (hh : loadW (std E call F) ti h b o K) : ∃ c s, h.load b o ti.size = some c ∧ mkV ti c = some s.av ∧ K s := by
  unfold loadW at hh
  split at hh
  · rename_i ha
    obtain ⟨c, e, k⟩ := hh
    exact ⟨c, .agg c, e, by unfold mkV; rw [ha]; rfl, k⟩
  · rename_i ha
    have key : ∀ v : AV, cellOf h b o = some v → ∃ c, h.load b o 1 = some c ∧ mkV ti c = some v := fun v e => ⟨[v], load_one e, by unfold mkV; rw [ha]⟩
    split at hh
    · rename_i hz
      rw [hz]
      split at hh
      · obtain ⟨n, e, k⟩ := hh; obtain ⟨c, k1, k2⟩ := key _ e; exact ⟨c, .int _ n, k1, k2, k⟩
      · obtain ⟨n, e, k⟩ := hh; obtain ⟨c, k1, k2⟩ := key _ e; exact ⟨c, .bool n, k1, k2, k⟩
      · obtain ⟨n, e, k⟩ := hh; obtain ⟨c, k1, k2⟩ := key _ e; exact ⟨c, .str n, k1, k2, k⟩
      · obtain ⟨n, e, k⟩ := hh; obtain ⟨c, k1, k2⟩ := key _ e; exact ⟨c, .v n, k1, k2, k⟩
    · exact hh.elim

theorem fillP_cons (place : Nat → Option (Nat × Nat)) (i : Nat) (a : AV) (r : List (Nat × AV)) (cells : List AV) : fillP place ((i, a) :: r) cells = match place i with
    | none => none
    | some (off, size) => match a.cellsN size with
      | some cs => match atN (Go.Abs.over cs) off cells with
        | some cells => fillP place r cells
        | none => none
      | none => none := rfl

theorem fill_sound {place : Nat → Option (Nat × Nat)} : ∀ {ps : List (Nat × SV)} {cur : List AV} {o : Bool} {K : List AV → Prop}, fillW (std E call F) place ps cur o K →
    ∃ cs, fillP place (ps.map fun p => (p.1, p.2.av)) cur = some cs ∧ K cs
  | [], cur, o, K, h => ⟨cur, rfl, h⟩
  | (i, s) :: r, cur, o, K, h => by
    unfold fillW at h
    rw [List.map_cons, fillP_cons]
    split at h
    · exact h.elim
    · rename_i off size hp
      rw [hp]
      have ov : ∀ cs cur', overS size cs off cur = some cur' → lenN cs = size ∧ atN (Go.Abs.over cs) off cur = some cur' := fun cs cur' e => by
        unfold overS at e
        split at e
        · rename_i hb; exact ⟨Nat.eq_of_beq_eq_true hb, e⟩
        · cases e
      split at h
      · rename_i cs
        obtain ⟨cur', e, k⟩ := h
        obtain ⟨e1, e2⟩ := ov _ _ e
        obtain ⟨z, k1, k2⟩ := fill_sound k
        refine ⟨z, ?_, k2⟩
        have : (SV.agg cs).av.cellsN size = some cs := by
          show (match Nat.beq (lenN cs) size with | true => some cs | false => none) = _
          rw [e1]; simp
        simp only [this, e2]; exact k1
      · obtain ⟨cs, e1, k⟩ := cells_sound h
        simp only [e1]
        split at k
        · obtain ⟨cur', e, k⟩ := k
          obtain ⟨_, e2⟩ := ov _ _ e
          obtain ⟨z, k1, k2⟩ := fill_sound k
          exact ⟨z, by simp only [e2]; exact k1, k2⟩
        · split at k
          · rename_i cur' e2
            obtain ⟨z, k1, k2⟩ := fill_sound k
            exact ⟨z, by simp only [e2]; exact k1, k2⟩
          · exact k.elim

theorem bin_int {op : BinOp} {t : TypeId} {k : IntKind} {a b : Int} {v : AV} (h : binop0 E op t (.int k a) (.int k b) = some v) : binop E op t (.int k a) (.int k b) = some v := by
  unfold binop; rw [h]

theorem bool_sound {op : BinOp} {t : TypeId} {a b : Bool} {K : SV → Prop} (h : boolW E op t a b K) : ∃ s, binop E op t (.bool a) (.bool b) = some s.av ∧ K s := by
  unfold boolW at h
  split at h
  · rename_i ti ht
    split at h
    · rename_i hk
      split at h
      · exact ⟨.bool (a == b), bool_eql ht hk, h⟩
      · exact ⟨.bool (a != b), bool_neq ht hk, h⟩
      · exact h.elim
    · exact h.elim
  · exact h.elim

theorem bin_sound {op : BinOp} {t ty : TypeId} {x y : SV} {K : SV → Prop} (h : binW (std E call F) E op t ty x y K) : ∃ s, binop E op t x.av y.av = some s.av ∧ K s := by
  have gen : ∀ {a b : AV}, on1 (binop E op t a b) (fun a => co (std E call F) (E.tt.get ty) a K) → ∃ s, binop E op t a b = some s.av ∧ K s := fun h => by
    obtain ⟨a, e, k⟩ := h
    obtain ⟨s, rfl, k2⟩ := co_sound k
    exact ⟨s, e, k2⟩
  unfold binW at h
  split at h
  · rename_i k a k' b
    split at h
    · rename_i hk
      have hk' : k = k' := by simpa using hk
      subst hk'
      show ∃ s, binop E op t (.int k a) (.int k b) = some s.av ∧ K s
      split at h
      · exact ⟨_, b_add, h⟩
      · exact ⟨_, b_sub, h⟩
      · exact ⟨_, b_mul, h⟩
      · obtain ⟨e, h⟩ := h; exact ⟨_, b_quo e, h⟩
      · obtain ⟨e, h⟩ := h; exact ⟨_, b_rem e, h⟩
      · exact ⟨_, b_lss, h⟩
      · exact ⟨_, b_leq, h⟩
      · exact ⟨_, b_gtr, h⟩
      · exact ⟨_, b_geq, h⟩
      · exact ⟨_, b_eql, h⟩
      · exact ⟨_, by rw [b_neq]; simp [SV.av], h⟩
      · exact gen h
    · exact gen h
  · rename_i a b
    show ∃ s, binop E op t (.str a) (.str b) = some s.av ∧ K s
    split at h
    · exact ⟨_, b_seq, h⟩
    · exact ⟨_, b_sne, h⟩
    · obtain ⟨e, h⟩ := h
      refine ⟨.str (a ++ b), ?_, h⟩
      simp [binop, binop0, binStr, SV.av, e]
    · exact gen h
  · exact gen h
  · exact bool_sound h
  · exact bool_sound h
  · exact bool_sound h
  · exact bool_sound h
  · exact gen h

theorem foldW_sound {mn : Bool} : ∀ {r : List SV} {x : SV} {K : SV → Prop}, foldW mn x r K → ∃ s, foldO (match mn with | true => min2 | false => max2) x.av (r.map SV.av) = some s.av ∧ K s
  | [], x, K, h => ⟨x, rfl, h⟩
  | y :: r, x, K, h => by
    unfold foldW at h
    split at h
    · rename_i k a k' b
      split at h
      · obtain ⟨s, h1, h2⟩ := foldW_sound h
        refine ⟨s, ?_, h2⟩
        rw [List.map_cons, fold_cons]
        simp only [SV.av, min2_int]; exact h1
      · obtain ⟨s, h1, h2⟩ := foldW_sound h
        refine ⟨s, ?_, h2⟩
        rw [List.map_cons, fold_cons]
        simp only [SV.av, max2_int]; exact h1
    · exact h.elim

theorem opt_sound {f : T SV} {fr : T AV} (hs : Sub f fr) {x : Option Operand} {K : Option Int → Prop} (h : optW f x K) : ∃ n, optOp fr x = some n ∧ K n := by
  unfold optW at h
  split at h
  · exact ⟨none, rfl, h⟩
  · obtain ⟨s, e, k⟩ := lk_sound hs h
    split at k
    · rename_i kk n
      refine ⟨some n, ?_, k⟩
      show (match opnd fr _ with | some (.int _ n) => some (some n) | _ => none) = _
      rw [e]; rfl
    · exact k.elim

theorem ones_sound : ∀ {l : List SV} {K : Prop}, onesW (std E call F) l K → (l.map SV.av).all AV.one = true ∧ K
  | [], K, h => ⟨rfl, h⟩
  | s :: r, K, h => by
    unfold onesW at h
    split at h
    · rename_i e; cases e
    · rename_i e; cases e; exact h.elim
    · rename_i e; cases e; exact h.elim
    · rename_i a r' e; cases e
      obtain ⟨h1, h2⟩ := h
      obtain ⟨h3, h4⟩ := ones_sound h2
      exact ⟨by rw [List.map_cons, List.all_cons, h3, Bool.and_true]; exact h1, h4⟩
    · rename_i a r' e; cases e
      obtain ⟨h1, h2⟩ := h
      obtain ⟨h3, h4⟩ := ones_sound h2
      exact ⟨by rw [List.map_cons, List.all_cons, h3, Bool.and_true]; exact h1, h4⟩
    · rename_i x r' h1 h2 h3 h0 e
      cases e
      obtain ⟨h4, h5⟩ := ones_sound h
      refine ⟨?_, h5⟩
      rw [List.map_cons, List.all_cons, h4, Bool.and_true]
      cases s <;> first | rfl | (exfalso; apply h1; rfl) | (exfalso; apply h2; rfl) | (exfalso; apply h3; rfl) | (exfalso; apply h0; rfl)

theorem idx_eq {size : Nat} {v : AV} {i : Int} {b o : Nat} (h : idxS size v i = some (b, o)) : ∃ n, natOf i = some n ∧ ((∃ b' o' len c, v = .sl b' o' len c ∧ Nat.blt n len = true ∧ b = b' ∧ o = o' + n * size) ∨ (∃ b' r len es, v = .so b' r len es ∧ Nat.blt n len = true ∧ Nat.beq size es = true ∧ b = b' ∧ o = (r + n) * es)) := by
  unfold idxS at h
  split at h
  · cases h
  · rename_i n hn
    refine ⟨n, hn, ?_⟩
    split at h
    · split at h
      · rename_i hb; cases h; exact .inl ⟨_, _, _, _, rfl, hb, rfl, rfl⟩
      · cases h
    · split at h
      · rename_i hb
        split at h
        · rename_i he; cases h; exact .inr ⟨_, _, _, _, rfl, hb, he, rfl, rfl⟩
        · cases h
      · cases h
    · cases h

theorem arr_eq {n : Nat} {i : Int} {j : Nat} (h : arrI n i = some j) : natOf i = some j ∧ Nat.blt j n = true := by
  unfold arrI at h
  split at h
  · cases h
  · rename_i k hk
    split at h
    · rename_i hb; cases h; exact ⟨hk, hb⟩
    · cases h

theorem pure_sound {f : T SV} {fr : T AV} (hs : Sub f fr) {op : Op} {ty : TypeId} {K : SV → Prop} (h : pureW (std E call F) E f op ty K) : ∃ s, pureA E fr op = some s.av ∧ K s := by
  unfold pureW at h
  split at h
  · exact lk_sound hs h
  · exact lk_sound hs h
  · -- pick
    rename_i c a b
    obtain ⟨s, e, k⟩ := lk_sound hs h
    split at k
    · obtain ⟨u, e2, k⟩ := lk_sound hs k
      refine ⟨u, ?_, k⟩
      show (match opnd fr c with | some (.bool true) => opnd fr a | some (.bool false) => opnd fr b | _ => none) = _
      rw [e]; exact e2
    · obtain ⟨u, e2, k⟩ := lk_sound hs k
      refine ⟨u, ?_, k⟩
      show (match opnd fr c with | some (.bool true) => opnd fr a | some (.bool false) => opnd fr b | _ => none) = _
      rw [e]; exact e2
    · rename_i x
      obtain ⟨k1, k2⟩ := k
      cases x with
      | true =>
        obtain ⟨u, e2, k⟩ := lk_sound hs (k1 rfl)
        refine ⟨u, ?_, k⟩
        show (match opnd fr c with | some (.bool true) => opnd fr a | some (.bool false) => opnd fr b | _ => none) = _
        rw [e]; exact e2
      | false =>
        obtain ⟨u, e2, k⟩ := lk_sound hs (k2 rfl)
        refine ⟨u, ?_, k⟩
        show (match opnd fr c with | some (.bool true) => opnd fr a | some (.bool false) => opnd fr b | _ => none) = _
        rw [e]; exact e2
    · exact k.elim
  · -- build
    rename_i t ps
    obtain ⟨vs, e, k⟩ := lkp_sound hs h
    unfold buildW at k
    show ∃ s : SV, (match E.tt.get t, partsOf fr ps.toList with
    | some ti, some vs => match ti.k with
      | .struct fs => match fillP (placeS fs E.tt) vs ti.zero with
        | some cs => some (AV.agg cs)
        | none => none
      | .arr _ e => match E.tt.get e with
        | some te => match fillP (fun i => some (i * te.size, te.size)) vs ti.zero with
          | some cs => some (.agg cs)
          | none => none
        | none => none
      | _ => none
    | _, _ => none) = some s.av ∧ K s
    rw [e]
    split at k
    · rename_i ti ht
      rw [ht]
      split at k
      · rename_i fs hk
        obtain ⟨cs, e2, k⟩ := fill_sound k
        exact ⟨.agg cs, by simp only [hk, e2]; rfl, k⟩
      · rename_i n e' hk
        split at k
        · rename_i te hte
          obtain ⟨cs, e2, k⟩ := fill_sound k
          exact ⟨.agg cs, by simp only [hk, hte, e2]; rfl, k⟩
        · exact k.elim
      · exact k.elim
    · exact k.elim
  · -- nilCheck
    rename_i x
    obtain ⟨s, e, k⟩ := lk_sound hs h
    show ∃ s : SV, (match opnd fr x with
    | some (.ptr b o) => some (AV.ptr b o)
    | some (.fn f c) => some (.fn f c)
    | _ => none) = some s.av ∧ K s
    rw [e]
    have hp : ∀ a : AV, onP (some a) (fun b o => K (.ptr b o)) → ∃ s : SV, (match some a with
    | some (.ptr b o) => some (AV.ptr b o)
    | some (.fn f c) => some (.fn f c)
    | _ => none) = some s.av ∧ K s := fun a h => by
      obtain ⟨b, o, e, k⟩ := h
      cases e
      exact ⟨_, rfl, k⟩
    unfold nilW at k
    split at k
    · exact ⟨_, rfl, k⟩
    · rename_i a
      split at k
      · split at k
        · obtain ⟨⟨g, c, rfl⟩, k⟩ := k; exact ⟨.v (.fn g c), rfl, k⟩
        · exact hp a k
      · exact hp a k
    · exact k.elim
  · -- binOp
    rename_i op t x y _
    obtain ⟨a, e1, k⟩ := lk_sound hs h
    obtain ⟨b, e2, k⟩ := lk_sound hs k
    obtain ⟨s, e3, k⟩ := bin_sound k
    refine ⟨s, ?_, k⟩
    show (match opnd fr x, opnd fr y with
    | some a, some b => binop E op t a b
    | _, _ => none) = _
    rw [e1, e2]; exact e3
  · -- unOp
    rename_i op t x
    obtain ⟨s, e, k⟩ := lk_sound hs h
    have hu : pureA E fr (.unOp op t x) = (match (generalizing := false) op, opnd fr x with
      | .not, some (.bool b) => some (AV.bool (!b))
      | .neg, some (.int k n) => some (.int k (k.wrap (0 - n)))
      | _, _ => none) := rfl
    rw [hu, e]
    clear hu
    split at k
    · exact ⟨_, rfl, k⟩
    · exact ⟨_, rfl, k⟩
    · exact ⟨_, rfl, k⟩
    · exact k.elim
  · -- makeFunc
    rename_i g first cap
    split at h
    · rename_i hf
      obtain ⟨vs, e, k⟩ := lks_sound hs h
      obtain ⟨e2, k⟩ := ones_sound k
      refine ⟨_, ?_, k⟩
      show (match opnds fr cap.toList with
        | some vs => match first.toList, vs.all AV.one with
          | [], true => some (AV.fn g vs)
          | _, _ => none
        | none => none) = _
      rw [e]
      simp only [hf, e2]; rfl
    · exact h.elim
  · -- slice
    rename_i t x lo hi mx
    obtain ⟨s, e, k⟩ := lk_sound hs h
    obtain ⟨a, e1, k⟩ := opt_sound hs k
    obtain ⟨b, e2, k⟩ := opt_sound hs k
    obtain ⟨c, e3, k⟩ := opt_sound hs k
    obtain ⟨v, e4, k⟩ := k
    obtain ⟨u, rfl, k2⟩ := co_sound k
    refine ⟨u, ?_, k2⟩
    show (match opnd fr x, optOp fr lo, optOp fr hi, optOp fr mx with
    | some v, some lo, some hi, some mx => sliceOp E.tt t v lo hi mx
    | _, _, _, _ => none) = _
    rw [e, e1, e2, e3]; exact e4
  · -- fieldAddr
    rename_i t x i
    obtain ⟨s, e, k⟩ := lk_sound hs h
    unfold fieldAddrW at k
    show ∃ s : SV, (match E.tt.get t, opnd fr x with
    | some ti, some (.ptr b o) => match ti.k with
      | .struct fs => match nth fs i with
        | some (ft, off) => match E.tt.get ft with
          | some tf => match tf.size with
            | 0 => none
            | _ + 1 => some (AV.ptr b (o + off))
          | none => none
        | none => none
      | _ => none
    | _, _ => none) = some s.av ∧ K s
    rw [e]
    split at k
    · rename_i ti ht
      rw [ht]
      split at k
      · rename_i fs hk
        split at k
        · rename_i ft off hn
          split at k
          · rename_i tf hf
            split at k
            · exact k.elim
            · rename_i m hz
              obtain ⟨b, o, e2, k⟩ := ptr_sound k
              exact ⟨_, by simp only [e2, hk, hn, hf, hz]; rfl, k⟩
          · exact k.elim
        · exact k.elim
      · exact k.elim
    · exact k.elim
  · -- field
    rename_i t x i
    obtain ⟨s, e, k⟩ := lk_sound hs h
    unfold fieldW at k
    show ∃ s : SV, (match E.tt.get t, opnd fr x with
    | some ti, some (.agg cs) => match ti.k with
      | .struct fs => match nth fs i with
        | some (ft, off) => match E.tt.get ft with
          | some tf => match takeN tf.size (dropN off cs) with
            | some c => mkV tf c
            | none => none
          | none => none
        | none => none
      | _ => none
    | _, _ => none) = some s.av ∧ K s
    rw [e]
    split at k
    · rename_i ti ht
      rw [ht]
      split at k
      · rename_i fs hk
        split at k
        · rename_i ft off hn
          split at k
          · rename_i tf hf
            split at k
            · obtain ⟨c, s, e2, e3, k⟩ := cell_sound k
              exact ⟨s, by simp only [SV.av, hk, hn, hf, e2]; exact e3, k⟩
            · exact k.elim
          · exact k.elim
        · exact k.elim
      · exact k.elim
    · exact k.elim
  · -- indexAddr
    rename_i t x ix
    obtain ⟨s, e, k⟩ := lk_sound hs h
    obtain ⟨j, e2, k⟩ := lk_sound hs k
    unfold indexAddrW at k
    show ∃ s : SV, (match E.tt.get t, opnd fr x, opnd fr ix with
    | some ti, some v, some (.int _ i) => match natOf i with
      | some i => match ti.k, v with
        | .slice e, .sl b o len _ => match Nat.blt i len, E.tt.get e with
          | true, some te => some (AV.ptr b (o + i * te.size))
          | _, _ => none
        | .slice e, .so b r len es => match Nat.blt i len, E.tt.get e with
          | true, some te => match Nat.beq te.size es with
            | true => some (.ptr b ((r + i) * es))
            | false => none
          | _, _ => none
        | .arr n e, .ptr b o => match Nat.blt i n, E.tt.get e with
          | true, some te => some (.ptr b (o + i * te.size))
          | _, _ => none
        | _, _ => none
      | none => none
    | _, _, _ => none) = some s.av ∧ K s
    rw [e, e2]
    split at k
    · rename_i kk i
      split at k
      · rename_i ti ht
        rw [ht]
        split at k
        · rename_i el hk
          split at k
          · rename_i te hte
            obtain ⟨b, o, e3, k⟩ := k
            obtain ⟨n, hn, ⟨b', o', len, c, h1, h2, h5, h6⟩ | ⟨b', r, len, es, h1, h2, h3, h5, h6⟩⟩ := idx_eq e3 <;> subst h5 h6
            · exact ⟨.ptr _ (o' + n * te.size), by rw [h1]; simp only [show (SV.int kk i).av = AV.int kk i from rfl, hn, hk, h2, hte]; rfl, k⟩
            · exact ⟨.ptr _ ((r + n) * es), by rw [h1]; simp only [show (SV.int kk i).av = AV.int kk i from rfl, hn, hk, h2, hte, h3]; rfl, k⟩
          · exact k.elim
        · rename_i n el hk
          split at k
          · rename_i te hte
            obtain ⟨b, o, e3, k⟩ := ptr_sound k
            obtain ⟨m, e4, k⟩ := k
            obtain ⟨hn, hb⟩ := arr_eq e4
            exact ⟨.ptr b (o + m * te.size), by rw [e3]; simp only [show (SV.int kk i).av = AV.int kk i from rfl, hn, hk, hb, hte]; rfl, k⟩
          · exact k.elim
        · exact k.elim
      · exact k.elim
    · exact k.elim
  · -- index
    rename_i t x ix
    obtain ⟨s, e, k⟩ := lk_sound hs h
    obtain ⟨j, e2, k⟩ := lk_sound hs k
    unfold indexW at k
    show ∃ s : SV, (match E.tt.get t, opnd fr x, opnd fr ix with
    | some ti, some v, some (.int _ i) => match natOf i with
      | some i => match ti.k, v with
        | .str, .str s => match nth s i with
          | some c => some (AV.int .u8 c.toNat)
          | none => none
        | .arr n e, .agg cs => match Nat.blt i n, E.tt.get e with
          | true, some te => match takeN te.size (dropN (i * te.size) cs) with
            | some c => mkV te c
            | none => none
          | _, _ => none
        | _, _ => none
      | none => none
    | _, _, _ => none) = some s.av ∧ K s
    rw [e, e2]
    split at k
    · rename_i kk i
      split at k
      · rename_i ti ht
        rw [ht]
        split at k
        · rename_i hk _
          obtain ⟨c, e3, k⟩ := k
          unfold chrS at e3
          split at e3
          · cases e3
          · rename_i n hn
            split at e3
            · rename_i c0 hc
              cases e3
              exact ⟨_, by simp only [SV.av, hn, hk, hc], k⟩
            · cases e3
        · rename_i n el cs hk _
          split at k
          · rename_i te hte
            obtain ⟨m, e4, k⟩ := k
            obtain ⟨hn, hb⟩ := arr_eq e4
            obtain ⟨c, s, e5, e6, k⟩ := cell_sound k
            exact ⟨s, by simp only [SV.av, hn, hk, hb, hte, e5]; exact e6, k⟩
          · exact k.elim
        · exact k.elim
      · exact k.elim
    · exact k.elim
  · -- extract
    rename_i x i
    obtain ⟨s, e, k⟩ := lk_sound hs h
    obtain ⟨a, e2, k⟩ := k
    obtain ⟨u, rfl, k2⟩ := co_sound k
    refine ⟨u, ?_, k2⟩
    show (match opnd fr x with
    | some (.tup vs) => nth vs i
    | _ => none) = _
    rw [e]
    unfold extS at e2
    split at e2
    · rename_i vs hv; simp only [hv]; exact e2
    · cases e2
  · -- min, max
    rename_i c
    show ∃ s : SV, (match c.callee with
    | .builtin b => match opnds fr c.args.toList with
      | none => none
      | some vs => match b, vs with
        | .min, x :: r => foldO min2 x r
        | .max, x :: r => foldO max2 x r
        | _, _ => none
    | _ => none) = some s.av ∧ K s
    split at h
    · rename_i b hc
      rw [hc]
      obtain ⟨vs, e, k⟩ := lks_sound hs h
      simp only [e]
      split at k
      · obtain ⟨s, e3, k⟩ := foldW_sound k; exact ⟨s, e3, k⟩
      · obtain ⟨s, e3, k⟩ := foldW_sound k; exact ⟨s, e3, k⟩
      · exact k.elim
    · exact h.elim
  · exact h.elim
end
end Go.Abs.W
