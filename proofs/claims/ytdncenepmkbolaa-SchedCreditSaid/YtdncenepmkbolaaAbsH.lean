/-
  Abstract heap against world: the relation R, what a step keeps (Post), and what the tables tell.
-/
import Derived.Test.YtdncenepmkbolaaAbsR
namespace Go.Abs
open Go

/-! type information -/
def aggOf : TypeDesc → Bool
  | .struct _ | .array _ _ => true
  | _ => false
structure TIok (P : Program) (t : TypeId) (ti : TI) (i : TypeInfo) (z : Value) (d : TypeDesc) : Prop where
  info : P.info? t = some i
  size : i.size = ti.size
  bytes : i.bytes = ti.bytes
  zero : i.zero = some z
  zcells : ∀ ρ, VL ρ ti.zero z.cells.toList
  und : P.underlying t = some d
  agg : ti.agg = aggOf d
  k : ti.k = tkOf d
  zlen : ti.zero.length = ti.size
  flat : ti.flat = flatU P t
  fields : fieldsOk P d = true

theorem absZ_VL {v : Value} {l : List AV} (ρ : Pl) (h : absZ v = some l) : VL ρ l v.cells.toList := by
  unfold absZ at h
  split at h
  · simpa [Value.cells] using absL_VL h
  · split at h
    · rename_i a ha
      simp only [Option.some.injEq] at h; subst h
      have hs := absS_VS ρ ha
      have := (cellsN_sound (n := 1) (cs := [a]) (VR.of_V1 (V1.of_VS hs)) (by cases a <;> first | rfl | exact hs.elim)).1
      exact this
    · cases h

theorem tiOf_ok {P : Program} {t : TypeId} {ti : TI} (h : tiOf P t = some ti) : ∃ i z d, TIok P t ti i z d := by
  unfold tiOf at h
  split at h
  · cases h
  · rename_i i hi
    split at h
    · cases h
    · rename_i z hz
      split at h
      · cases h
      · rename_i a ha
        split at h
        · cases h
        · rename_i hl
          split at h
          · cases h
          · rename_i d hd
            split at h
            · cases h
            rename_i hfo
            simp only [Option.some.injEq] at h
            subst h
            have hlt : t < P.types.size := (Array.getElem?_eq_some_iff.1 hi).1
            exact ⟨i, z, d, by simp only [Tables.info?, hlt, if_true]; exact hi, rfl, rfl, hz, fun ρ => absZ_VL ρ ha, hd, by cases d <;> rfl, rfl, by simpa using hl, rfl, hfo⟩

section
variable {P : Program} {t : TypeId} {ti : TI} {i : TypeInfo} {z : Value} {d : TypeDesc} (w : World)
theorem TIok.run_info (h : TIok P t ti i z d) : (typeInfo t).run P w = .ok i w := by
  simp [typeInfo, h.info]
theorem TIok.run_und (h : TIok P t ti i z d) : (underlying t).run P w = .ok d w := by
  simp [underlying, h.und]
theorem TIok.run_size (h : TIok P t ti i z d) : (sizeOf t).run P w = .ok ti.size w := by
  simp [sizeOf, h.run_info w, h.size]
theorem TIok.run_zero (h : TIok P t ti i z d) : (zeroValue t).run P w = .ok z w := by
  simp [zeroValue, h.run_info w, h.zero]
theorem TIok.run_agg (h : TIok P t ti i z d) : (isAgg t).run P w = .ok ti.agg w := by
  rw [h.agg]
  cases d <;> simp [isAgg, h.run_und w, aggOf]
end

/-! the tables of an environment tell what the program has -/
structure EnvOk (P : Program) (E : Env) : Prop where
  mixed : P.follows .mixedOrders = true
  tt : ∀ t ti, E.tt.get t = some ti → ∃ i z d, TIok P t ti i z d
  ft : ∀ f fn, E.ft.get f = some fn → P.funcs[f]? = some fn

theorem mkTT_get {P : Program} : ∀ (n t : Nat) (ti : TI), (mkTT P n).get t = some ti → tiOf P t = some ti := by
  intro n
  induction n with
  | zero => intro t ti h; cases h
  | succ n ih =>
    intro t ti h
    have e : mkTT P (n + 1) = (Option.rec (mkTT P n) (fun i => (mkTT P n).put n i) (tiOf P n) : T TI) := rfl
    rw [e] at h
    cases hi : tiOf P n with
    | none => rw [hi] at h; exact ih _ _ h
    | some i =>
      rw [hi] at h
      simp only [T.get_put] at h
      split at h
      · rename_i e; subst e; rw [hi]; exact h
      · exact ih _ _ h

theorem mkFT_get : ∀ (l : List Func) (n f : Nat) (fn : Func), (mkFT l n).get f = some fn → n ≤ f ∧ l[f - n]? = some fn := by
  intro l
  induction l with
  | nil => intro n f fn h; cases h
  | cons x r ih =>
    intro n f fn h
    have e : mkFT (x :: r) n = (mkFT r (n + 1)).put n x := rfl
    rw [e, T.get_put] at h
    split at h
    · rename_i e; subst e; exact ⟨Nat.le_refl _, by simpa using h⟩
    · obtain ⟨h1, h2⟩ := ih _ _ _ h
      refine ⟨by omega, ?_⟩
      obtain ⟨k, rfl⟩ : ∃ k, f = n + 1 + k := ⟨f - (n + 1), by omega⟩
      have e1 : n + 1 + k - n = k + 1 := by omega
      have e2 : n + 1 + k - (n + 1) = k := by omega
      rw [e1]; rw [e2] at h2; simpa using h2

theorem envOk_mk (P : Program) (n : Nat) (hm : P.follows .mixedOrders = true) : EnvOk P ⟨mkTT P n, mkFT P.funcs.toList 0⟩ :=
  ⟨hm, fun t ti h => tiOf_ok (mkTT_get n t ti h), fun f fn h => by
    have := (mkFT_get _ _ _ _ h).2
    simpa using this⟩

/-! the relation -/
structure RowsOk (ρ : Pl) (w : World) (l : Loc) (es : Nat) (rs : List (List AV)) : Prop where
  width : ∀ (i : Nat) (r : List AV), rs[i]? = some r → r.length = es
  cell : ∀ (i j : Nat) (r : List AV) (v : AV), rs[i]? = some r → r[j]? = some v → ∃ u, VS ρ v u ∧ w.cell? ⟨l.blk, l.off + i * es + j, none⟩ = some u

structure RowsMay (w : World) (l : Loc) (es : Nat) (n : Nat) : Prop where
  wide : l.es = es
  free : ∀ o, o < l.room * es → w.frozen? ⟨l.blk, l.off + o, none⟩ = false
  there : ∀ o, o < l.room * es → ∃ u, w.cell? ⟨l.blk, l.off + o, none⟩ = some u
  room : n ≤ l.room

def BlkOk (ρ : Pl) (w : World) (l : Loc) : Blk → Prop
  | .rows es rs ro _ _ => RowsOk ρ w l es rs ∧ (ro = false → RowsMay w l es rs.length)
  | .dead => True

def Blk.live : Blk → Bool
  | .dead => false
  | _ => true
def Blk.mine : Blk → Bool
  | .rows _ _ ro _ _ => !ro
  | .dead => false
def Blk.prev : Blk → Option Nat
  | .rows _ _ _ p _ => p
  | .dead => none
def Blk.next : Blk → Option Nat
  | .rows _ _ _ _ n => n
  | .dead => none

structure R (ρ : Pl) (h : H) (w : World) : Prop where
  blk : ∀ b l x, ρ b = some l → h.get b = some x → BlkOk ρ w l x
  sep : ∀ b c l m x y, b ≠ c → ρ b = some l → ρ c = some m → h.get b = some x → h.get c = some y → x.live = true → y.live = true → l.blk = m.blk →
    (x.mine = false ∧ y.mine = false) ∨ x.prev = some c ∨ x.next = some c
  fresh : ∀ b, h.n ≤ b → h.get b = none ∧ ρ b = none
  inh : ∀ b l, ρ b = some l → l.blk < w.heap.size
  links : ∀ b l x c, ρ b = some l → h.get b = some x → (x.prev = some c ∨ x.next = some c) → (ρ c).isSome ∧ c < h.n ∧ (h.get c).isSome

def Own (ρ : Pl) (h : H) (c : Nat) : Prop := ∃ b l x, ρ b = some l ∧ h.get b = some x ∧ x.mine = true ∧ l.blk = c

structure Post (ρ : Pl) (h : H) (w : World) (ρ' : Pl) (h' : H) (w' : World) : Prop where
  ext : Ext ρ ρ'
  rel : R ρ' h' w'
  size : w.heap.size ≤ w'.heap.size
  keep : ∀ c, c < w.heap.size → ¬ Own ρ h c → w'.heap[c]? = w.heap[c]?
  own : ∀ c, c < w.heap.size → Own ρ' h' c → Own ρ h c
  new : ∀ b l, ρ b = none → ρ' b = some l → h.n ≤ b ∧ (w.heap.size ≤ l.blk ∨ Own ρ h l.blk)
  unborn : ∀ b, ρ b = none → b < h.n → h'.get b = h.get b
  absent : ∀ b, b < h.n → h.get b = none → h'.get b = none
  mono : h.n ≤ h'.n
  tape : w'.tape = w.tape
  os : w'.os = w.os
  output : w'.output = w.output

theorem Post.refl {ρ : Pl} {h : H} {w : World} (hr : R ρ h w) : Post ρ h w ρ h w :=
  ⟨Ext.refl _, hr, Nat.le_refl _, fun _ _ _ => rfl, fun _ _ h => h, (fun b l h1 h2 => by rw [h1] at h2; cases h2), fun _ _ _ => rfl, fun _ _ h => h, Nat.le_refl _, rfl, rfl, rfl⟩

theorem Post.trans {ρ ρ1 ρ2 : Pl} {h h1 h2 : H} {w w1 w2 : World} (a : Post ρ h w ρ1 h1 w1) (b : Post ρ1 h1 w1 ρ2 h2 w2) : Post ρ h w ρ2 h2 w2 where
  ext := a.ext.trans b.ext
  rel := b.rel
  size := Nat.le_trans a.size b.size
  keep := fun c hc hn => (b.keep c (Nat.lt_of_lt_of_le hc a.size) (fun ho => hn (a.own c hc ho))).trans (a.keep c hc hn)
  own := fun c hc ho => a.own c hc (b.own c (Nat.lt_of_lt_of_le hc a.size) ho)
  new := fun x l h0 h2 => by
    cases h1' : ρ1 x with
    | some l1 =>
      have := b.ext _ _ h1'
      rw [h2] at this; cases this
      exact a.new _ _ h0 h1'
    | none =>
      obtain ⟨n1, n2⟩ := b.new _ _ h1' h2
      refine ⟨Nat.le_trans a.mono n1, ?_⟩
      rcases n2 with n2 | n2
      · exact .inl (Nat.le_trans a.size n2)
      · by_cases hlt : l.blk < w.heap.size
        · exact .inr (a.own _ hlt n2)
        · exact .inl (by omega)
  unborn := fun x h0 hx => by
    have e : ρ1 x = none := by
      cases h1' : ρ1 x with
      | none => rfl
      | some l => have := (a.new _ _ h0 h1').1; omega
    rw [b.unborn x e (Nat.lt_of_lt_of_le hx a.mono), a.unborn x h0 hx]
  absent := fun x hx h0 => b.absent x (Nat.lt_of_lt_of_le hx a.mono) (a.absent x hx h0)
  mono := Nat.le_trans a.mono b.mono
  tape := b.tape.trans a.tape
  os := b.os.trans a.os
  output := b.output.trans a.output

/-- a draw: nothing but a count of the world's turns -/
theorem R.world {ρ : Pl} {h : H} {w w' : World} (hr : R ρ h w) (hh : w'.heap = w.heap) : R ρ h w' := by
  have hc : ∀ a, w'.cell? a = w.cell? a := fun a => by simp [World.cell?, hh]
  have hf : ∀ a, w'.frozen? a = w.frozen? a := fun a => by simp [World.frozen?, hh]
  refine ⟨fun b l x h1 h2 => ?_, hr.sep, hr.fresh, fun b l h1 => by rw [hh]; exact hr.inh b l h1, hr.links⟩
  have := hr.blk b l x h1 h2
  cases x with
  | dead => trivial
  | rows es rs ro p n =>
    obtain ⟨k1, k2⟩ := this
    refine ⟨⟨k1.width, fun i j r v hi hj => by rw [hc]; exact k1.cell i j r v hi hj⟩, fun hro => ?_⟩
    obtain ⟨m1, m2, m3, m4⟩ := k2 hro
    exact ⟨m1, fun o ho => by rw [hf]; exact m2 o ho, fun o ho => by rw [hc]; exact m3 o ho, m4⟩

theorem Post.world {ρ ρ' : Pl} {h h' : H} {w w1 w' : World} (hp : Post ρ h w ρ' h' w') (h1 : w1.heap = w.heap) (ht : w1.tape = w.tape) (ho : w1.os = w.os) (hu : w1.output = w.output) : Post ρ h w1 ρ' h' w' := by
  refine ⟨hp.ext, hp.rel, by rw [h1]; exact hp.size, fun c => by rw [h1]; exact hp.keep c, fun c => by rw [h1]; exact hp.own c, fun b l => by rw [h1]; exact hp.new b l, hp.unborn, hp.absent, hp.mono, hp.tape.trans ht.symm, hp.os.trans ho.symm, hp.output.trans hu.symm⟩

/-- rows stay where the block they lie in stays -/
theorem RowsOk.keep {ρ ρ' : Pl} {w w' : World} {l : Loc} {es : Nat} {rs : List (List AV)} (h : RowsOk ρ w l es rs) (he : Ext ρ ρ') (hb : w'.heap[l.blk]? = w.heap[l.blk]?) : RowsOk ρ' w' l es rs :=
  ⟨h.width, fun i j r v hi hj => by
    obtain ⟨u, h1, h2⟩ := h.cell i j r v hi hj
    exact ⟨u, h1.mono he, by rw [World.cell?_of_block (w := w) (by exact hb)]; exact h2⟩⟩
theorem RowsMay.keep {w w' : World} {l : Loc} {es n : Nat} (h : RowsMay w l es n) (hb : w'.heap[l.blk]? = w.heap[l.blk]?) : RowsMay w' l es n :=
  ⟨h.wide, fun o ho => by rw [World.frozen?_of_block (w := w) (by exact hb)]; exact h.free o ho,
   fun o ho => by rw [World.cell?_of_block (w := w) (by exact hb)]; exact h.there o ho, h.room⟩
theorem BlkOk.keep {ρ ρ' : Pl} {w w' : World} {l : Loc} {x : Blk} (h : BlkOk ρ w l x) (he : Ext ρ ρ') (hb : w'.heap[l.blk]? = w.heap[l.blk]?) : BlkOk ρ' w' l x := by
  cases x with
  | dead => trivial
  | rows es rs ro p n => exact ⟨h.1.keep he hb, fun hro => (h.2 hro).keep hb⟩

theorem H.get_put (h : H) (b c : Nat) (x : Blk) : (h.put b x).get c = if c = b then some x else h.get c := T.get_put _ _ _ _
theorem H.get_new (h : H) (c : Nat) (x : Blk) : (h.new x).get c = if c = h.n then some x else h.get c := T.get_put _ _ _ _
theorem H.get_kill (h : H) (p : Option Nat) (c : Nat) : (h.kill p).get c = if p = some c then some .dead else h.get c := by
  cases p with
  | none => simp [H.kill]
  | some b => simp only [H.kill, H.get, T.get_put, Option.some.injEq]; by_cases e : c = b <;> simp [e, eq_comm]
@[simp] theorem H.n_put (h : H) (b : Nat) (x : Blk) : (h.put b x).n = h.n := rfl
@[simp] theorem H.n_new (h : H) (x : Blk) : (h.new x).n = h.n + 1 := rfl
@[simp] theorem H.n_kill (h : H) (p : Option Nat) : (h.kill p).n = h.n := by cases p <;> rfl

/-- a place more -/
def Pl.add (ρ : Pl) (b : Nat) (l : Loc) : Pl := fun c => if c = b then some l else ρ c
theorem Pl.ext_add {ρ : Pl} {b : Nat} {l : Loc} (h : ρ b = none) : Ext ρ (ρ.add b l) := fun c m hc => by
  unfold Pl.add
  split
  · rename_i e; subst e; rw [h] at hc; cases hc
  · exact hc

end Go.Abs
