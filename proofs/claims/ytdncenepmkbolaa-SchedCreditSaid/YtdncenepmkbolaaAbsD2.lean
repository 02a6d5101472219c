/-
  A region that draws its order (2): small laws.
-/
import Derived.Test.YtdncenepmkbolaaAbsD
namespace Go.Abs
open Go

section
variable {P : Program} {E : Env} {ρ : Pl}

theorem R.put_absent {h : H} {w : World} {id : Nat} {x : Blk} (hr : R ρ h w) (h0 : h.get id = none) (hn : id < h.n) (hp : x.prev = none) (hnx : x.next = none)
    (hc : ρ id = none ∨ ∃ l, ρ id = some l ∧ BlkOk ρ w l x ∧ ∀ b m, b ≠ id → ρ b = some m → m.blk ≠ l.blk) : R ρ (h.put id x) w := by
  have hg : ∀ c, c ≠ id → (h.put id x).get c = h.get c := fun c hc => by rw [H.get_put, if_neg hc]
  have hx : (h.put id x).get id = some x := by rw [H.get_put, if_pos rfl]
  have hds : ∀ l, ρ id = some l → BlkOk ρ w l x ∧ ∀ b m, b ≠ id → ρ b = some m → m.blk ≠ l.blk := fun l hl => by
    rcases hc with h1 | ⟨l', h1, h2, h3⟩
    · rw [hl] at h1; cases h1
    · rw [hl] at h1; cases h1; exact ⟨h2, h3⟩
  refine ⟨fun b l y h1 h2 => ?_, fun b c l m y z hbc h1 h2 h3 h4 h5 h6 h7 => ?_, fun b hb => ?_, hr.inh, fun b l y c h1 h2 h3 => ?_⟩
  · by_cases e : b = id
    · subst e; rw [hx] at h2; cases h2; exact (hds l h1).1
    · rw [hg b e] at h2; exact hr.blk b l y h1 h2
  · by_cases e : b = id
    · subst e
      exact absurd h7.symm ((hds l h1).2 c m (fun e => hbc e.symm) h2)
    · by_cases e' : c = id
      · subst e'
        exact absurd h7 ((hds m h2).2 b l e h1)
      · rw [hg b e] at h3; rw [hg c e'] at h4
        exact hr.sep b c l m y z hbc h1 h2 h3 h4 h5 h6 h7
  · have hb' : h.n ≤ b := hb
    rw [hg b (by omega)]; exact hr.fresh b hb'
  · by_cases e : b = id
    · subst e; rw [hx] at h2; cases h2; rw [hp, hnx] at h3; simp at h3
    · rw [hg b e] at h2
      obtain ⟨q1, q2, q3⟩ := hr.links b l y c h1 h2 h3
      refine ⟨q1, q2, ?_⟩
      rw [H.get_put]; split
      · rfl
      · exact q3

theorem Post.put_absent {ρ0 : Pl} {h0 h : H} {w0 w : World} {id : Nat} {x : Blk} (hp : Post ρ0 h0 w0 ρ h w) (hid : h0.n ≤ id) (hn : id < h.n) (hg0 : h.get id = none) (hxp : x.prev = none) (hxn : x.next = none)
    (hc : ρ id = none ∨ ∃ l, ρ id = some l ∧ BlkOk ρ w l x ∧ (∀ b m, b ≠ id → ρ b = some m → m.blk ≠ l.blk) ∧ w0.heap.size ≤ l.blk) : Post ρ0 h0 w0 ρ (h.put id x) w := by
  have hg : ∀ c, c ≠ id → (h.put id x).get c = h.get c := fun c hc => by rw [H.get_put, if_neg hc]
  refine ⟨hp.ext, hp.rel.put_absent hg0 hn hxp hxn (hc.imp_right fun ⟨l, h1, h2, h3, _⟩ => ⟨l, h1, h2, h3⟩), hp.size, hp.keep, fun c hcl ho => ?_, hp.new, fun b h1 h2 => ?_, fun b h1 h2 => ?_, hp.mono, hp.tape, hp.os, hp.output⟩
  · obtain ⟨b, l, y, h1, h2, h3, h4⟩ := ho
    by_cases e : b = id
    · subst e
      rcases hc with h5 | ⟨l', h5, _, _, h6⟩
      · rw [h1] at h5; cases h5
      · rw [h1] at h5; cases h5; omega
    · rw [hg b e] at h2
      exact hp.own c hcl ⟨b, l, y, h1, h2, h3, h4⟩
  · rw [hg b (by omega)]; exact hp.unborn b h1 h2
  · rw [hg b (by omega)]; exact hp.absent b h1 h2

/-- a block is born under a number that was kept for it -/
theorem R.addLoc {h : H} {w w' : World} {id : Nat} {l : Loc} (hr : R ρ h w) (hb : ρ id = none) (hn : id < h.n) (hold : ∀ c, c < w.heap.size → w'.heap[c]? = w.heap[c]?) (hsz : w.heap.size ≤ w'.heap.size)
    (hl : w.heap.size ≤ l.blk) (hl' : l.blk < w'.heap.size) (hx : ∀ x, h.get id = some x → BlkOk (ρ.add id l) w' l x ∧ x.prev = none ∧ x.next = none) : R (ρ.add id l) h w' := by
  cases hgi : h.get id with
  | some x =>
    obtain ⟨h1, h2, h3⟩ := hx x hgi
    exact hr.birth hb hn (Nat.le_refl _) hold hsz hl hl' hgi (fun c _ => rfl) h1 h2 h3
  | none =>
    have he := Pl.ext_add (ρ := ρ) (l := l) hb
    have hρ : ∀ c m, c ≠ id → ρ.add id l c = some m → ρ c = some m := fun c m hc h1 => by simpa [Pl.add, hc] using h1
    have hne : ∀ c y, h.get c = some y → c ≠ id := fun c y hc e => by subst e; rw [hgi] at hc; cases hc
    refine ⟨fun c m y h1 h2 => ?_, fun c d m k y z hcd h1 h2 h3 h4 h5 h6 h7 => ?_, fun c hc => ?_, fun c m h1 => ?_, fun c m y d h1 h2 h3 => ?_⟩
    · have := hρ c m (hne c y h2) h1
      exact (hr.blk _ _ _ this h2).keep he (hold _ (hr.inh _ _ this))
    · exact hr.sep c d m k y z hcd (hρ c m (hne c y h3) h1) (hρ d k (hne d z h4) h2) h3 h4 h5 h6 h7
    · obtain ⟨k1, k2⟩ := hr.fresh c hc
      exact ⟨k1, by simp [Pl.add, show c ≠ id by omega, k2]⟩
    · by_cases hc : c = id
      · subst hc
        have : m = l := by simpa [Pl.add, eq_comm] using h1
        rw [this]; exact hl'
      · exact Nat.lt_of_lt_of_le (hr.inh _ _ (hρ c m hc h1)) hsz
    · obtain ⟨q1, q2, q3⟩ := hr.links c m y d (hρ c m (hne c y h2) h1) h2 h3
      obtain ⟨q, hq⟩ := Option.isSome_iff_exists.1 q1
      exact ⟨by rw [he _ _ hq]; rfl, q2, q3⟩

theorem Post.addLoc {ρ0 : Pl} {h0 h : H} {w0 w w' : World} {id : Nat} {l : Loc} (hp : Post ρ0 h0 w0 ρ h w) (hid : h0.n ≤ id) (hb : ρ id = none) (hn : id < h.n) (hold : ∀ c, c < w.heap.size → w'.heap[c]? = w.heap[c]?) (hsz : w.heap.size ≤ w'.heap.size)
    (hl : w.heap.size ≤ l.blk) (hl' : l.blk < w'.heap.size) (hx : ∀ x, h.get id = some x → BlkOk (ρ.add id l) w' l x ∧ x.prev = none ∧ x.next = none) (ht : w'.tape = w.tape) (ho : w'.os = w.os) (hu : w'.output = w.output) :
    Post ρ0 h0 w0 (ρ.add id l) h w' := by
  have hs0 := hp.size
  refine ⟨hp.ext.trans (Pl.ext_add hb), hp.rel.addLoc hb hn hold hsz hl hl' hx, Nat.le_trans hp.size hsz, fun c hc hno => (hold c (by omega)).trans (hp.keep c hc hno), fun c hc hw => ?_, fun b m h1 h2 => ?_, hp.unborn, hp.absent, hp.mono, ht.trans hp.tape, ho.trans hp.os, hu.trans hp.output⟩
  · obtain ⟨b, m, y, h1, h2, h3, h4⟩ := hw
    by_cases e : b = id
    · subst e
      have : m = l := by simpa [Pl.add, eq_comm] using h1
      subst this; omega
    · exact hp.own c hc ⟨b, m, y, by simpa [Pl.add, e] using h1, h2, h3, h4⟩
  · by_cases e : b = id
    · subst e
      have : m = l := by simpa [Pl.add, eq_comm] using h2
      subst this; exact ⟨hid, .inl (by omega)⟩
    · exact hp.new b m h1 (by simpa [Pl.add, e] using h2)

/-! reads see no more than what is there -/
def Sub (h h' : H) : Prop := ∀ b x, h.get b = some x → h'.get b = some x
theorem load_mono {h h' : H} (hs : Sub h h') {b o n : Nat} {cs : List AV} (hl : h.load b o n = some cs) : h'.load b o n = some cs := by
  unfold H.load at hl ⊢
  split at hl
  · rename_i es rs ro p nx hg
    rw [hs _ _ hg]; exact hl
  · cases hl
theorem rowsOf_mono {h h' : H} (hs : Sub h h') {size : Nat} {v : AV} {rows : List (List AV)} (hl : rowsOf h size v = some rows) : rowsOf h' size v = some rows := by
  unfold rowsOf at hl ⊢
  split at hl
  · exact hl
  · exact hl
  · exact hl
  · split at hl
    · rename_i b i len hsl
      split at hl
      · exact hl
      · split at hl
        · rename_i es rs ro p nx hg
          rw [hs _ _ hg]; exact hl
        · cases hl
    · cases hl
theorem read_mono {fr : T AV} {h h' : H} (hs : Sub h h') {op : Op} {v : AV} (hv : readA E fr h op = some v) : readA E fr h' op = some v := by
  cases op <;> simp only [readA] at hv ⊢ <;> try (first | exact hv | (cases hv; done))
  case load t x =>
    split at hv
    · rename_i ti b o hti hx
      split at hv
      · rename_i cs hcs
        rw [load_mono hs hcs]; exact hv
      · cases hv
    · cases hv
  case convert src dst x =>
    split at hv
    · rename_i si ti a hsi hti hx
      split at hv
      · exact hv
      · exact hv
      · rename_i hk hns
        split at hv
        · rename_i e hse
          split at hv
          · rename_i te hte
            split at hv
            · rename_i hek
              split at hv
              · rename_i rs hrs
                rw [rowsOf_mono hs hrs]; exact hv
              · cases hv
            · cases hv
          · cases hv
        · cases hv
      · cases hv
    · cases hv

theorem same_top (q : Top) (b : AV) (h : sameV (.top q) b = true) : AV.top q = b := by
  cases q with
  | emp =>
    cases b with
    | top r => cases r <;> first | rfl | (simp [sameV] at h)
    | _ => simp [sameV] at h
  | _ => cases b <;> simp [sameV] at h
mutual
theorem sameV_eq : ∀ (a b : AV), sameV a b = true → a = b
  | .bool a, b, h => by cases b <;> simp [sameV] at h; rw [h]
  | .int k n, b, h => by cases b <;> simp [sameV] at h; rw [h.1, h.2]
  | .str s, b, h => by cases b <;> simp [sameV] at h; rw [h]
  | .ptr x y, b, h => by cases b <;> simp [sameV] at h; rw [h.1, h.2]
  | .nilp, b, h => by cases b <;> simp [sameV] at h; rfl
  | .sl x y z u, b, h => by cases b <;> simp [sameV] at h; obtain ⟨⟨⟨h1, h2⟩, h3⟩, h4⟩ := h; rw [h1, h2, h3, h4]
  | .so x y z u, b, h => by cases b <;> simp [sameV] at h; obtain ⟨⟨⟨h1, h2⟩, h3⟩, h4⟩ := h; rw [h1, h2, h3, h4]
  | .nils, b, h => by cases b <;> simp [sameV] at h; rfl
  | .mp x, b, h => by cases b <;> simp [sameV] at h; rw [h]
  | .nilm, b, h => by cases b <;> simp [sameV] at h; rfl
  | .fn f c, b, h => by cases b <;> simp [sameV] at h; rw [h.1, sameL_eq _ _ h.2]
  | .nilf, b, h => by cases b <;> simp [sameV] at h; rfl
  | .nili, b, h => by cases b <;> simp [sameV] at h; rfl
  | .agg x, b, h => by cases b <;> simp [sameV] at h; rw [sameL_eq _ _ h]
  | .tup x, b, h => by cases b <;> simp [sameV] at h; rw [sameL_eq _ _ h]
  | .top q, b, h => same_top q b h
theorem sameL_eq : ∀ (a b : List AV), sameL a b = true → a = b
  | [], b, h => by cases b <;> simp [sameL] at h; rfl
  | x :: r, b, h => by
    cases b with
    | nil => simp [sameL] at h
    | cons y z => simp [sameL] at h; rw [sameV_eq _ _ h.1, sameL_eq _ _ h.2]
end

theorem recheck_cons (ops : List Oper) (fr : T AV) (hs : List H) (p : Nat × Nat) (fl : List (Nat × Nat)) : recheck E ops fr hs (p :: fl) = match nth hs p.1, nth ops p.2 with
    | some h, some o => match wantedA ops fr o with
      | some false => recheck E ops fr hs fl
      | some true => match readA E fr h o.op, o.dst with
        | some v, some d => match fr.get d with
          | some u => match sameV v u with
            | true => recheck E ops fr hs fl
            | false => false
          | none => false
        | _, _ => false
      | none => false
    | _, _ => false := rfl

theorem recheck_spec {ops : List Oper} {fr : T AV} {hs : List H} : ∀ {fl : List (Nat × Nat)}, recheck E ops fr hs fl = true → ∀ p ∈ fl, ∀ h o, hs[p.1]? = some h → ops[p.2]? = some o → wantedA ops fr o = some true →
    ∃ v d, readA E fr h o.op = some v ∧ o.dst = some d ∧ fr.get d = some v
  | [], _, p, hp, _, _, _, _, _ => by simp at hp
  | q :: fl, hc, p, hp, h, o, h1, h2, h3 => by
    rw [recheck_cons] at hc
    rcases List.mem_cons.1 hp with rfl | hm
    · rw [nth_eq, nth_eq, h1, h2] at hc
      simp only [h3] at hc
      split at hc
      · rename_i v d hv hd
        split at hc
        · rename_i u hu
          split at hc
          · rename_i hsame
            have := sameV_eq _ _ hsame
            subst this
            exact ⟨_, d, hv, hd, hu⟩
          · cases hc
        · cases hc
      · cases hc
    · refine recheck_spec (fl := fl) ?_ p hm h o h1 h2 h3
      split at hc
      · split at hc
        · exact hc
        · split at hc
          · split at hc
            · split at hc
              · exact hc
              · cases hc
            · cases hc
          · cases hc
        · cases hc
      · cases hc

/-! counting effects -/
theorem effsTo_succ (ops : List Oper) (k : Nat) : effsTo ops (k + 1) = effsTo ops k + (if (ops[k]?).any isEff then 1 else 0) := by
  unfold effsTo
  cases hk : ops[k]? with
  | none =>
    have : ops.length ≤ k := by rw [List.getElem?_eq_none_iff] at hk; exact hk
    rw [List.take_of_length_le (by omega), List.take_of_length_le this]; simp
  | some o =>
    obtain ⟨hlt, ho⟩ := List.getElem?_eq_some_iff.1 hk
    rw [List.take_succ_eq_append_getElem hlt, List.filter_append, List.length_append, ho]
    simp only [Option.any_some, List.filter_cons, List.filter_nil]
    split <;> simp
theorem count_range (p : Nat → Bool) (k : Nat) : ∀ n, ((List.range n).filter fun j => p j && decide (j < k)).length = ((List.range (min n k)).filter p).length
  | 0 => by simp
  | n + 1 => by
    rw [List.range_succ, List.filter_append, List.length_append, count_range p k n]
    by_cases h : n < k
    · rw [Nat.min_eq_left (by omega), Nat.min_eq_left (by omega), List.range_succ, List.filter_append, List.length_append]
      simp [List.filter_cons, h]
    · rw [Nat.min_eq_right (by omega), Nat.min_eq_right (by omega)]
      simp [h]
theorem effsTo_count (ops : List Oper) : ∀ k, effsTo ops k = ((List.range k).filter fun j => (ops[j]?).any isEff).length
  | 0 => by simp [effsTo]
  | k + 1 => by
    rw [effsTo_succ, effsTo_count ops k, List.range_succ, List.filter_append, List.length_append]
    simp only [List.filter_cons, List.filter_nil]
    split <;> simp
theorem filter_le (p q : Nat → Bool) (h : ∀ j, p j = true → q j = true) : ∀ l : List Nat, (l.filter p).length ≤ (l.filter q).length
  | [] => by simp
  | x :: l => by
    have := filter_le p q h l
    simp only [List.filter_cons]
    cases hp : p x
    · cases q x <;> simp <;> omega
    · rw [h x hp]; simp; omega

theorem floats_mem {ops : List Oper} {bs : List Nat} {i k : Nat} {o : Oper} (ho : ops[i]? = some o) (hr : isRead o = true)
    (hlo : ((List.range ops.length).filter fun j => (ops[j]?).any isEff && Nat.testBit (bs.getD i 0) j).length ≤ k)
    (hhi : k ≤ ((List.range ops.length).filter fun j => (ops[j]?).any isEff && !Nat.testBit (bs.getD j 0) i).length) (hne : k ≠ effsTo ops i) : (k, i) ∈ floats ops bs := by
  unfold floats
  rw [List.mem_flatMap]
  refine ⟨i, by rw [List.mem_range]; exact (List.getElem?_eq_some_iff.1 ho).1, ?_⟩
  simp only [ho, hr, if_true]
  rw [List.mem_filter, List.mem_map]
  refine ⟨⟨k - ((List.range ops.length).filter fun j => (ops[j]?).any isEff && Nat.testBit (bs.getD i 0) j).length, by rw [List.mem_range]; omega, by simp only [Prod.mk.injEq, and_true]; omega⟩, ?_⟩
  simp only [Bool.not_eq_true']
  cases hq : Nat.beq k (effsTo ops i)
  · rfl
  · exact absurd (Nat.eq_of_beq_eq_true hq) hne
end
end Go.Abs
