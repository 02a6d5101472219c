/-
  Append (2): what may grow in its place or elsewhere.
-/
import Derived.Test.YtdncenepmkbolaaAbsZ2
namespace Go.Abs
open Go

section
variable {P : Program} {E : Env} {ρ : Pl} {fr : T AV} {ev : Operand → Value}

theorem Post.fork {h : H} {w w' : World} {b : Nat} {l l2 : Loc} {es size : Nat} {rs rs' rows2 : List (List AV)} {p nx : Option Nat} (hr : R ρ h w) (hb : ρ b = some l)
    (hx : h.get b = some (.rows es rs false p nx)) (hcase : l2.blk = l.blk ∨ (w.heap.size ≤ l2.blk ∧ l2.blk < w'.heap.size))
    (hold : ∀ c, c ≠ l.blk → c < w.heap.size → w'.heap[c]? = w.heap[c]?) (hsz : w.heap.size ≤ w'.heap.size)
    (ok1 : BlkOk (ρ.add h.n l2) w' l (.rows es rs' false none (some h.n))) (ok2 : BlkOk (ρ.add h.n l2) w' l2 (.rows size rows2 false (some b) none))
    (ht : w'.tape = w.tape) (ho : w'.os = w.os) (hu : w'.output = w.output) :
    Post ρ h w (ρ.add h.n l2) ((((h.kill p).kill nx).new (.rows size rows2 false (some b) none)).put b (.rows es rs' false none (some h.n))) w' := by
  have hbn : b < h.n := by
    rcases Nat.lt_or_ge b h.n with h1 | h1
    · exact h1
    · have := (hr.fresh b h1).2; rw [hb] at this; cases this
  have hfree := (hr.fresh h.n (Nat.le_refl _)).2
  have hget : ∀ c, ((((h.kill p).kill nx).new (.rows size rows2 false (some b) none)).put b (.rows es rs' false none (some h.n))).get c =
      if c = b then some (.rows es rs' false none (some h.n)) else if c = h.n then some (.rows size rows2 false (some b) none) else if nx = some c then some .dead else if p = some c then some .dead else h.get c := fun c => by
    rw [H.get_put, H.get_new, H.get_kill, H.get_kill]; simp
  generalize hh' : ((((h.kill p).kill nx).new (.rows size rows2 false (some b) none)).put b (.rows es rs' false none (some h.n))) = h' at hget
  have hn' : h'.n = h.n + 1 := by rw [← hh']; simp
  have hmine : (Blk.rows es rs false p nx).mine = true := rfl
  have hρ : ∀ c m, c ≠ h.n → ρ.add h.n l2 c = some m → ρ c = some m := fun c m hc h1 => by simpa [Pl.add, hc] using h1
  have hρc : ∀ m, ρ.add h.n l2 h.n = some m → m = l2 := fun m h1 => by simpa [Pl.add, eq_comm] using h1
  have hρb : ρ.add h.n l2 b = some l := by simp [Pl.add, show b ≠ h.n by omega, hb]
  have he := Pl.ext_add (ρ := ρ) (l := l2) hfree
  -- another block that lives: it lived, and lies elsewhere
  have halive : ∀ c y, c ≠ b → c ≠ h.n → h'.get c = some y → y.live = true → h.get c = some y ∧ p ≠ some c ∧ nx ≠ some c := fun c y hc hc' h1 h2 => by
    rw [hget, if_neg hc, if_neg hc'] at h1
    split at h1
    · cases h1; cases h2
    · split at h1
      · cases h1; cases h2
      · exact ⟨h1, by assumption, by assumption⟩
  have hne : ∀ c m y, c ≠ b → c ≠ h.n → ρ c = some m → h'.get c = some y → y.live = true → m.blk ≠ l.blk ∧ m.blk ≠ l2.blk := fun c m y hc hc' h1 h2 h3 => by
    obtain ⟨k1, k2, k3⟩ := halive c y hc hc' h2 h3
    have e1 : m.blk ≠ l.blk := fun e => by
      have := hr.sep b c l m _ y (fun e => hc e.symm) hb h1 hx k1 rfl h3 e.symm
      rcases this with ⟨q, _⟩ | q | q
      · rw [hmine] at q; cases q
      · exact k2 q
      · exact k3 q
    refine ⟨e1, ?_⟩
    rcases hcase with e | ⟨e, _⟩
    · rw [e]; exact e1
    · have := hr.inh _ _ h1; omega
  have hlin := hr.inh _ _ hb
  have hrel : R (ρ.add h.n l2) h' w' := by
    refine ⟨fun c m y h1 h2 => ?_, fun c d m k y z hcd h1 h2 h3 h4 h5 h6 h7 => ?_, fun c hc => ?_, fun c m h1 => ?_, fun c m y d h1 h2 h3 => ?_⟩
    · by_cases hc : c = b
      · subst hc
        rw [hρb] at h1; cases h1
        rw [hget, if_pos rfl] at h2; cases h2
        exact ok1
      · by_cases hc' : c = h.n
        · subst hc'
          rw [hρc _ h1]
          rw [hget, if_neg (by omega), if_pos rfl] at h2; cases h2
          exact ok2
        · cases hy : y.live with
          | false => cases y <;> first | trivial | (cases hy)
          | true =>
            obtain ⟨k1, k2, k3⟩ := halive c y hc hc' h2 hy
            have h1' := hρ c m hc' h1
            exact (hr.blk _ _ _ h1' k1).keep he (hold _ (hne c m y hc hc' h1' h2 hy).1 (hr.inh _ _ h1'))
    · by_cases hc : c = b
      · subst hc
        by_cases hd : d = h.n
        · subst hd
          rw [hget, if_pos rfl] at h3; cases h3
          exact .inr (.inr rfl)
        · rw [hρb] at h1; cases h1
          exact absurd h7.symm (hne d k z (fun e => hcd e.symm) hd (hρ d k hd h2) h4 h6).1
      · by_cases hc' : c = h.n
        · subst hc'
          by_cases hd : d = b
          · subst hd
            rw [hget, if_neg (by omega), if_pos rfl] at h3; cases h3
            exact .inr (.inl rfl)
          · have hd' : d ≠ h.n := fun e => hcd e.symm
            rw [hρc _ h1] at h7
            exact absurd h7.symm (hne d k z hd hd' (hρ d k hd' h2) h4 h6).2
        · have h1' := hρ c m hc' h1
          by_cases hd : d = b
          · subst hd
            rw [hρb] at h2; cases h2
            exact absurd h7 (hne c m y hc hc' h1' h3 h5).1
          · by_cases hd' : d = h.n
            · subst hd'
              rw [hρc _ h2] at h7
              exact absurd h7 (hne c m y hc hc' h1' h3 h5).2
            · obtain ⟨k1, _, _⟩ := halive c y hc hc' h3 h5
              obtain ⟨k2, _, _⟩ := halive d z hd hd' h4 h6
              exact hr.sep c d m k y z hcd h1' (hρ d k hd' h2) k1 k2 h5 h6 h7
    · rw [hn'] at hc
      obtain ⟨k1, k2⟩ := hr.fresh c (by omega)
      refine ⟨?_, by simp [Pl.add, show c ≠ h.n by omega, k2]⟩
      rw [hget, if_neg (by omega), if_neg (by omega)]
      split
      · rename_i e
        have := (hr.links b l _ c hb hx (.inr e)).2.1; omega
      · split
        · rename_i e
          have := (hr.links b l _ c hb hx (.inl e)).2.1; omega
        · exact k1
    · by_cases hc' : c = h.n
      · subst hc'
        rw [hρc _ h1]
        rcases hcase with e | ⟨_, e⟩
        · rw [e]; omega
        · exact e
      · exact Nat.lt_of_lt_of_le (hr.inh _ _ (hρ c m hc' h1)) hsz
    · by_cases hc : c = b
      · subst hc
        rw [hget, if_pos rfl] at h2; cases h2
        simp only [Blk.prev, Blk.next, reduceCtorEq, false_or, Option.some.injEq] at h3
        subst h3
        exact ⟨by simp [Pl.add], by omega, by rw [hget, if_neg (by omega), if_pos rfl]; rfl⟩
      · by_cases hc' : c = h.n
        · subst hc'
          rw [hget, if_neg (by omega), if_pos rfl] at h2; cases h2
          simp only [Blk.prev, Blk.next, reduceCtorEq, or_false, Option.some.injEq] at h3
          subst h3
          exact ⟨by rw [hρb]; rfl, by omega, by rw [hget, if_pos rfl]; rfl⟩
        · cases hy : y.live with
          | false => cases y <;> first | (simp [Blk.prev, Blk.next] at h3; done) | (cases hy)
          | true =>
            obtain ⟨k1, _, _⟩ := halive c y hc hc' h2 hy
            obtain ⟨q1, q2, q3⟩ := hr.links c m y d (hρ c m hc' h1) k1 h3
            obtain ⟨q, hq⟩ := Option.isSome_iff_exists.1 q1
            refine ⟨by rw [he _ _ hq]; rfl, by omega, ?_⟩
            rw [hget]
            split
            · rfl
            · split
              · rfl
              · split
                · rfl
                · split
                  · rfl
                  · exact q3
  refine ⟨he, hrel, hsz, fun c hc hn => hold c (fun e => hn ⟨b, l, _, hb, hx, hmine, e.symm⟩) hc, fun c hc hw => ?_, fun c m h1 h2 => ?_, fun c h1 h2 => ?_, fun c h1 h2 => ?_, by omega, ht, ho, hu⟩
  · obtain ⟨d, m, y, h1, h2, h3, h4⟩ := hw
    by_cases hd : d = b
    · subst hd
      rw [hρb] at h1; cases h1
      exact ⟨d, l, _, hb, hx, hmine, h4⟩
    · by_cases hd' : d = h.n
      · subst hd'
        have := hρc _ h1; subst this
        rcases hcase with e | ⟨e, _⟩
        · exact ⟨b, l, _, hb, hx, hmine, by rw [← e]; exact h4⟩
        · omega
      · have hl : y.live = true := by cases y <;> first | rfl | (cases h3)
        exact ⟨d, m, y, hρ d m hd' h1, (halive d y hd hd' h2 hl).1, h3, h4⟩
  · by_cases hc' : c = h.n
    · subst hc'
      have := hρc _ h2; subst this
      refine ⟨Nat.le_refl _, ?_⟩
      rcases hcase with e | ⟨e, _⟩
      · exact .inr ⟨b, l, _, hb, hx, hmine, e.symm⟩
      · exact .inl e
    · rw [hρ c m hc' h2] at h1; cases h1
  · rw [hget, if_neg (fun e => by subst e; rw [hb] at h1; cases h1), if_neg (by omega)]
    split
    · rename_i e
      have := (hr.links b l _ c hb hx (.inr e)).1; rw [h1] at this; cases this
    · split
      · rename_i e
        have := (hr.links b l _ c hb hx (.inl e)).1; rw [h1] at this; cases this
      · rfl
  · rw [hget, if_neg (fun e => by subst e; rw [hx] at h2; cases h2), if_neg (by omega)]
    split
    · rename_i e
      have := (hr.links b l _ c hb hx (.inr e)).2.2; rw [h2] at this; cases this
    · split
      · rename_i e
        have := (hr.links b l _ c hb hx (.inl e)).2.2; rw [h2] at this; cases this
      · exact h2
end
end Go.Abs
