/-
  Births and writes: what they do to the relation.
-/
import Derived.Test.YtdncenepmkbolaaAbsH
namespace Go.Abs
open Go

theorem Own.of_ext {ρ : Pl} {h : H} {c : Nat} (ho : Own ρ h c) : Own ρ h c := ho

/-- a new block, under a number that was free -/
theorem R.birth {ρ : Pl} {h h' : H} {w w' : World} {b : Nat} {l : Loc} {x : Blk} (hr : R ρ h w) (hb : ρ b = none) (hbn : b < h'.n) (hn : h.n ≤ h'.n)
    (hold : ∀ c, c < w.heap.size → w'.heap[c]? = w.heap[c]?) (hsz : w.heap.size ≤ w'.heap.size) (hl : w.heap.size ≤ l.blk) (hl' : l.blk < w'.heap.size)
    (hx : h'.get b = some x) (hg : ∀ c, c ≠ b → h'.get c = h.get c) (hok : BlkOk (ρ.add b l) w' l x) (hp : x.prev = none) (hnx : x.next = none) : R (ρ.add b l) h' w' := by
  have he := Pl.ext_add (ρ := ρ) (l := l) hb
  have hρ : ∀ c m, c ≠ b → ρ.add b l c = some m → ρ c = some m := fun c m hc h1 => by simpa [Pl.add, hc] using h1
  have hρb : ∀ m, ρ.add b l b = some m → m = l := fun m h1 => by simpa [Pl.add, eq_comm] using h1
  refine ⟨fun c m y h1 h2 => ?_, fun c d m k y z hcd h1 h2 h3 h4 h5 h6 h7 => ?_, fun c hc => ?_, fun c m h1 => ?_, fun c m y d h1 h2 h3 => ?_⟩
  · by_cases hc : c = b
    · subst hc
      rw [hρb _ h1]; rw [hx] at h2; cases h2; exact hok
    · rw [hg c hc] at h2
      have := hρ c m hc h1
      exact (hr.blk _ _ _ this h2).keep he (hold _ (hr.inh _ _ this))
  · by_cases hc : c = b
    · subst hc
      have hd : d ≠ c := fun e => hcd e.symm
      have e1 := hρb _ h1
      have := hr.inh _ _ (hρ d k hd h2)
      subst e1; omega
    · by_cases hd : d = b
      · subst hd
        have e1 := hρb _ h2
        have := hr.inh _ _ (hρ c m hc h1)
        subst e1; omega
      · rw [hg c hc] at h3; rw [hg d hd] at h4
        exact hr.sep c d m k y z hcd (hρ c m hc h1) (hρ d k hd h2) h3 h4 h5 h6 h7
  · have hc' : c ≠ b := fun e => by omega
    obtain ⟨k1, k2⟩ := hr.fresh c (Nat.le_trans hn hc)
    exact ⟨by rw [hg c hc']; exact k1, by simp [Pl.add, hc', k2]⟩
  · by_cases hc : c = b
    · subst hc; rw [hρb _ h1]; exact hl'
    · exact Nat.lt_of_lt_of_le (hr.inh _ _ (hρ c m hc h1)) hsz
  · by_cases hc : c = b
    · subst hc
      rw [hx] at h2; cases h2
      rw [hp, hnx] at h3; simp at h3
    · rw [hg c hc] at h2
      obtain ⟨k1, k2, k3⟩ := hr.links c m y d (hρ c m hc h1) h2 h3
      refine ⟨?_, Nat.lt_of_lt_of_le k2 hn, ?_⟩
      case refine_2 =>
        by_cases hd : d = b
        · subst hd; rw [hx]; rfl
        · rw [hg d hd]; exact k3
      obtain ⟨q, hq⟩ := Option.isSome_iff_exists.1 k1
      rw [he _ _ hq]; rfl

theorem Own.birth {ρ : Pl} {h h' : H} {w : World} {b c : Nat} {l : Loc} (hl : w.heap.size ≤ l.blk) (hc : c < w.heap.size)
    (hg : ∀ c, c ≠ b → h'.get c = h.get c) (ho : Own (ρ.add b l) h' c) : Own ρ h c := by
  obtain ⟨d, m, y, h1, h2, h3, h4⟩ := ho
  by_cases hd : d = b
  · subst hd
    have : m = l := by simpa [Pl.add, eq_comm] using h1
    subst this; omega
  · exact ⟨d, m, y, by simpa [Pl.add, hd] using h1, by rw [← hg d hd]; exact h2, h3, h4⟩

/-- a new block under the next number -/
theorem Post.birth {ρ : Pl} {h : H} {w w' : World} {l : Loc} {x : Blk} (hr : R ρ h w)
    (hold : ∀ c, c < w.heap.size → w'.heap[c]? = w.heap[c]?) (hsz : w.heap.size ≤ w'.heap.size) (hl : w.heap.size ≤ l.blk) (hl' : l.blk < w'.heap.size)
    (hok : BlkOk (ρ.add h.n l) w' l x) (hp : x.prev = none) (hnx : x.next = none) (ht : w'.tape = w.tape) (ho : w'.os = w.os) (hu : w'.output = w.output) :
    Post ρ h w (ρ.add h.n l) (h.new x) w' := by
  have hb := (hr.fresh h.n (Nat.le_refl _)).2
  have hg : ∀ c, c ≠ h.n → (h.new x).get c = h.get c := fun c hc => by rw [H.get_new, if_neg hc]
  refine ⟨Pl.ext_add hb, hr.birth hb (by simp) (by simp) hold hsz hl hl' (by rw [H.get_new, if_pos rfl]) hg hok hp hnx, hsz, fun c hc _ => hold c hc, fun c hc hw => Own.birth hl hc hg hw, fun b m h1 h2 => ?_, fun b h1 h2 => hg b (by omega), fun b h1 h2 => by rw [hg b (by omega)]; exact h2, by simp, ht, ho, hu⟩
  by_cases hb' : b = h.n
  · subst hb'
    have : m = l := by simpa [Pl.add, eq_comm] using h2
    subst this; exact ⟨Nat.le_refl _, .inl hl⟩
  · simp [Pl.add, hb', h1] at h2

/-- a block is written -/
theorem Post.write {ρ : Pl} {h : H} {w w' : World} {b : Nat} {l : Loc} {es : Nat} {rs rs' : List (List AV)} {p nx : Option Nat} (hr : R ρ h w) (hb : ρ b = some l)
    (hx : h.get b = some (.rows es rs false p nx)) (hold : ∀ c, c ≠ l.blk → w'.heap[c]? = w.heap[c]?) (hsz : w'.heap.size = w.heap.size)
    (hok : RowsOk ρ w' l es rs') (hmay : RowsMay w' l es rs'.length) (ht : w'.tape = w.tape) (ho : w'.os = w.os) (hu : w'.output = w.output) :
    Post ρ h w ρ (((h.kill p).kill nx).put b (.rows es rs' false none none)) w' := by
  have hget : ∀ c, (((h.kill p).kill nx).put b (.rows es rs' false none none)).get c =
      if c = b then some (.rows es rs' false none none) else if nx = some c then some .dead else if p = some c then some .dead else h.get c := fun c => by
    rw [H.get_put, H.get_kill, H.get_kill]
  have hbn : b < h.n := by
    rcases Nat.lt_or_ge b h.n with h1 | h1
    · exact h1
    · have := (hr.fresh b h1).2; rw [hb] at this; cases this
  have halive : ∀ c y, c ≠ b → (((h.kill p).kill nx).put b (.rows es rs' false none none)).get c = some y → y.live = true → h.get c = some y ∧ p ≠ some c ∧ nx ≠ some c := fun c y hc h1 h2 => by
    rw [hget, if_neg hc] at h1
    split at h1
    · cases h1; cases h2
    · split at h1
      · cases h1; cases h2
      · exact ⟨h1, by assumption, by assumption⟩
  have hmine : (Blk.rows es rs false p nx).mine = true := rfl
  have hne : ∀ c m y, c ≠ b → ρ c = some m → (((h.kill p).kill nx).put b (.rows es rs' false none none)).get c = some y → y.live = true → m.blk ≠ l.blk := fun c m y hc h1 h2 h3 he => by
    obtain ⟨k1, k2, k3⟩ := halive c y hc h2 h3
    have := hr.sep b c l m _ y (fun e => hc e.symm) hb h1 hx k1 rfl h3 he.symm
    rcases this with ⟨q, _⟩ | q | q
    · rw [hmine] at q; cases q
    · exact k2 q
    · exact k3 q
  have hrel : R ρ (((h.kill p).kill nx).put b (.rows es rs' false none none)) w' := by
    refine ⟨fun c m y h1 h2 => ?_, fun c d m k y z hcd h1 h2 h3 h4 h5 h6 h7 => ?_, fun c hc => ?_, fun c m h1 => by rw [hsz]; exact hr.inh _ _ h1, fun c m y d h1 h2 h3 => ?_⟩
    · by_cases hc : c = b
      · subst hc
        rw [hb] at h1; cases h1
        rw [hget, if_pos rfl] at h2; cases h2
        exact ⟨hok, fun _ => hmay⟩
      · cases hy : y.live with
        | false => cases y <;> first | trivial | (cases hy)
        | true =>
          obtain ⟨k1, k2, k3⟩ := halive c y hc h2 hy
          exact (hr.blk _ _ _ h1 k1).keep (Ext.refl _) (hold _ (hne c m y hc h1 h2 hy))
    · by_cases hc : c = b
      · subst hc
        rw [hb] at h1; cases h1
        exact absurd h7.symm (hne d k z (fun e => hcd e.symm) h2 h4 h6)
      · by_cases hd : d = b
        · subst hd
          rw [hb] at h2; cases h2
          exact absurd h7 (hne c m y hc h1 h3 h5)
        · obtain ⟨k1, _, _⟩ := halive c y hc h3 h5
          obtain ⟨k2, _, _⟩ := halive d z hd h4 h6
          exact hr.sep c d m k y z hcd h1 h2 k1 k2 h5 h6 h7
    · have hc' : h.n ≤ c := by simpa using hc
      obtain ⟨k1, k2⟩ := hr.fresh c hc'
      refine ⟨?_, k2⟩
      rw [hget, if_neg (by omega)]
      split
      · rename_i e
        have := (hr.links b l _ c hb hx (.inr e)).2.1; omega
      · split
        · rename_i e
          have := (hr.links b l _ c hb hx (.inl e)).2.1; omega
        · exact k1
    · by_cases hc : c = b
      · subst hc
        rw [hget, if_pos rfl] at h2; cases h2
        simp [Blk.prev, Blk.next] at h3
      · cases hy : y.live with
        | false => cases y <;> first | (simp [Blk.prev, Blk.next] at h3; done) | (cases hy)
        | true =>
          obtain ⟨k1, _, _⟩ := halive c y hc h2 hy
          obtain ⟨q1, q2, q3⟩ := hr.links c m y d h1 k1 h3
          refine ⟨q1, by simpa using q2, ?_⟩
          rw [hget]
          split
          · rfl
          · split
            · rfl
            · split
              · rfl
              · exact q3
  refine ⟨Ext.refl _, hrel, by omega, fun c _ hn => hold c (fun e => hn ⟨b, l, _, hb, hx, hmine, e.symm⟩), fun c _ hw => ?_, (fun c m h1 h2 => by rw [h1] at h2; cases h2), fun c h1 h2 => ?_, fun c h1 h2 => ?_, by simp, ht, ho, hu⟩
  · obtain ⟨d, m, y, h1, h2, h3, h4⟩ := hw
    by_cases hd : d = b
    · subst hd
      rw [hb] at h1; cases h1
      exact ⟨d, l, _, hb, hx, hmine, h4⟩
    · have hl : y.live = true := by cases y <;> first | rfl | (cases h3)
      exact ⟨d, m, y, h1, (halive d y hd h2 hl).1, h3, h4⟩
  · rw [hget, if_neg (fun e => by subst e; rw [hb] at h1; cases h1)]
    split
    · rename_i e
      have := (hr.links b l _ c hb hx (.inr e)).1; rw [h1] at this; cases this
    · split
      · rename_i e
        have := (hr.links b l _ c hb hx (.inl e)).1; rw [h1] at this; cases this
      · rfl
  · rw [hget, if_neg (fun e => by subst e; rw [hx] at h2; cases h2)]
    split
    · rename_i e
      have := (hr.links b l _ c hb hx (.inr e)).2.2; rw [h2] at this; cases this
    · split
      · rename_i e
        have := (hr.links b l _ c hb hx (.inl e)).2.2; rw [h2] at this; cases this
      · exact h2

/-! a row of cells written -/
def setCells (w : World) (b off : Nat) : List Value → World
  | [] => w
  | v :: r => setCells (w.setCell ⟨b, off, none⟩ v) b (off + 1) r

theorem setCells_heap (b : Nat) : ∀ (vs : List Value) (off : Nat) (w : World) (c : Nat), c ≠ b → (setCells w b off vs).heap[c]? = w.heap[c]? := by
  intro vs
  induction vs with
  | nil => intro off w c h; rfl
  | cons v r ih =>
    intro off w c h
    rw [setCells, ih _ _ _ h]
    exact heap_setCell_other w _ c v h
theorem setCells_size (b : Nat) : ∀ (vs : List Value) (off : Nat) (w : World), (setCells w b off vs).heap.size = w.heap.size := by
  intro vs
  induction vs with
  | nil => intro off w; rfl
  | cons v r ih => intro off w; rw [setCells, ih]; simp
theorem setCells_rest (b : Nat) : ∀ (vs : List Value) (off : Nat) (w : World), (setCells w b off vs).tape = w.tape ∧ (setCells w b off vs).os = w.os ∧ (setCells w b off vs).output = w.output ∧ ∀ a, (setCells w b off vs).frozen? a = w.frozen? a := by
  intro vs
  induction vs with
  | nil => intro off w; exact ⟨rfl, rfl, rfl, fun _ => rfl⟩
  | cons v r ih =>
    intro off w
    obtain ⟨h1, h2, h3, h4⟩ := ih (off + 1) (w.setCell ⟨b, off, none⟩ v)
    rw [setCells]
    exact ⟨h1.trans rfl, h2.trans rfl, h3.trans rfl, fun a => (h4 a).trans (by simp)⟩
theorem setCells_cell (b : Nat) : ∀ (vs : List Value) (off : Nat) (w : World), (∀ j, j < vs.length → ∃ u, w.cell? ⟨b, off + j, none⟩ = some u) →
    ∀ o, (setCells w b off vs).cell? ⟨b, o, none⟩ = if off ≤ o ∧ o < off + vs.length then vs[o - off]? else w.cell? ⟨b, o, none⟩ := by
  intro vs
  induction vs with
  | nil => intro off w h o; rw [if_neg (by simp only [List.length_nil]; omega)]; rfl
  | cons v r ih =>
    intro off w h o
    obtain ⟨u, hu⟩ := h 0 (by simp)
    rw [Nat.add_zero] at hu
    rw [setCells, ih]
    · by_cases e : o = off
      · subst e
        rw [if_neg (by omega), if_pos (by simp), World.cell?_setCell_same _ _ _ hu]
        simp
      · have hne : (⟨b, off, none⟩ : Addr) ≠ ⟨b, o, none⟩ := fun hh => e (by cases hh; rfl)
        rw [World.cell?_setCell_other _ _ _ _ hne]
        by_cases c : off + 1 ≤ o ∧ o < off + 1 + r.length
        · rw [if_pos c, if_pos (by simp; omega)]
          obtain ⟨k, rfl⟩ : ∃ k, o = off + 1 + k := ⟨o - (off + 1), by omega⟩
          have e1 : off + 1 + k - (off + 1) = k := by omega
          have e2 : off + 1 + k - off = k + 1 := by omega
          rw [e1, e2]; simp
        · rw [if_neg c, if_neg (by simp; omega)]
    · intro j hj
      by_cases e : off + 1 + j = off
      · omega
      · obtain ⟨x, hx⟩ := h (j + 1) (by simp; omega)
        refine ⟨x, ?_⟩
        have hne : (⟨b, off, none⟩ : Addr) ≠ ⟨b, off + 1 + j, none⟩ := fun hh => e (by injection hh with _ h2; omega)
        rw [World.cell?_setCell_other _ _ _ _ hne]
        rw [show off + 1 + j = off + (j + 1) from by omega]; exact hx

theorem add_plain (b o n : Nat) : (⟨b, o, none⟩ : Addr).add n = ⟨b, o + n, none⟩ := by
  unfold Addr.add
  split
  · rename_i e; subst e; simp
  · rfl

theorem run_storeCells {P : Program} (b : Nat) : ∀ (vs : List Value) (off i : Nat) (w : World), (∀ j, j < vs.length → ∃ u, w.cell? ⟨b, off + i + j, none⟩ = some u) →
    (∀ j, j < vs.length → w.frozen? ⟨b, off + i + j, none⟩ = false) → (∀ v ∈ vs, v.oneCell' = true) →
    (storeCells ⟨b, off, none⟩ vs i).run P w = .ok () (setCells w b (off + i) vs) := by
  intro vs
  induction vs with
  | nil => intro off i w _ _ _; rfl
  | cons v r ih =>
    intro off i w h hf hv
    obtain ⟨u, hu⟩ := h 0 (by simp)
    have hfz := hf 0 (by simp)
    rw [Nat.add_zero] at hu hfz
    simp only [storeCells, add_plain, Sem.run_bind]
    rw [run_store P w _ v _ (hv v (by simp))]
    simp only [hu, hfz, Bool.false_eq_true, if_false, Result.andThen_ok]
    rw [ih off (i + 1)]
    · rfl
    · intro j hj
      obtain ⟨x, hx⟩ := h (j + 1) (by simp; omega)
      refine ⟨x, ?_⟩
      have hne : (⟨b, off + i, none⟩ : Addr) ≠ ⟨b, off + (i + 1) + j, none⟩ := fun hh => by injection hh with _ h2; omega
      rw [World.cell?_setCell_other _ _ _ _ hne, show off + (i + 1) + j = off + i + (j + 1) from by omega]; exact hx
    · intro j hj
      rw [World.frozen?_setCell, show off + (i + 1) + j = off + i + (j + 1) from by omega]
      exact hf (j + 1) (by simp; omega)
    · intro x hx; exact hv x (by simp [hx])

end Go.Abs
