/-
  Effects: stores, appends, copies, clears, calls.
-/
import Derived.Test.YtddehkbgfkeahaaAbsV
namespace Go.Abs
open Go

section
variable {P : Program} {E : Env} {ρ : Pl} {fr : T AV} {ev : Operand → Value}

theorem idx_inj {es i j i' j' : Nat} (hj : j < es) (hj' : j' < es) (h : i * es + j = i' * es + j') : i = i' ∧ j = j' := by
  have h1 : i = i' := by
    have a : (i * es + j) / es = i := by
      rw [Nat.mul_comm, Nat.mul_add_div (by omega), Nat.div_eq_of_lt hj]; omega
    have b : (i' * es + j') / es = i' := by
      rw [Nat.mul_comm, Nat.mul_add_div (by omega), Nat.div_eq_of_lt hj']; omega
    rw [← a, ← b, h]
  subst h1
  exact ⟨rfl, by omega⟩

/-- a run of cells written: the rows that then stand there -/
theorem RowsOk.write {w : World} {l : Loc} {es : Nat} {rs rs' : List (List AV)} (hw : RowsOk ρ w l es rs) (hwid : ∀ (i : Nat) (r : List AV), rs'[i]? = some r → r.length = es) {s : Nat} {vs : List AV} {us : List Value} (hu : VL ρ vs us)
    (hpt : ∀ (i j : Nat) (r : List AV) (v : AV), rs'[i]? = some r → r[j]? = some v →
      (s ≤ i * es + j ∧ i * es + j < s + vs.length ∧ vs[i * es + j - s]? = some v) ∨ (¬ (s ≤ i * es + j ∧ i * es + j < s + vs.length) ∧ ∃ r0, rs[i]? = some r0 ∧ r0[j]? = some v))
    (hpres : ∀ j, j < us.length → ∃ u, w.cell? ⟨l.blk, l.off + s + j, none⟩ = some u) : RowsOk ρ (setCells w l.blk (l.off + s) us) l es rs' := by
  refine ⟨hwid, fun i j r v hi hj => ?_⟩
  have hul := hu.length
  rw [setCells_cell l.blk us (l.off + s) w hpres]
  rcases hpt i j r v hi hj with ⟨h1, h2, h3⟩ | ⟨h1, r0, h2, h3⟩
  · rw [if_pos (by omega)]
    obtain ⟨u, k1, k2⟩ := hu.get h3
    exact ⟨u, k2, by rw [← k1]; congr 1; omega⟩
  · rw [if_neg (by omega)]
    exact hw.cell i j r0 v h2 h3

theorem RowsMay.write {w : World} {l : Loc} {es n : Nat} (h : RowsMay w l es n) {o : Nat} {us : List Value} (hpres : ∀ j, j < us.length → ∃ u, w.cell? ⟨l.blk, o + j, none⟩ = some u) : RowsMay (setCells w l.blk o us) l es n :=
  ⟨h.wide, fun k hk => by rw [(setCells_rest l.blk us o w).2.2.2]; exact h.free k hk, fun k hk => by
    rw [setCells_cell l.blk us o w hpres]
    split
    · rename_i hh
      exact ⟨us[l.off + k - o]'(by omega), by simp⟩
    · exact h.there k hk, h.room⟩

/-- a run of cells may be written where they lie in a block's room -/
theorem RowsMay.run {w : World} {l : Loc} {es n : Nat} (h : RowsMay w l es n) {s : Nat} {us : List Value} (hfit : s + us.length ≤ n * es) :
    (∀ j, j < us.length → ∃ u, w.cell? ⟨l.blk, l.off + s + j, none⟩ = some u) ∧ (∀ j, j < us.length → w.frozen? ⟨l.blk, l.off + s + j, none⟩ = false) := by
  have hr : n * es ≤ l.room * es := Nat.mul_le_mul_right _ h.room
  exact ⟨fun j hj => by rw [Nat.add_assoc]; exact h.there _ (by omega), fun j hj => by rw [Nat.add_assoc]; exact h.free _ (by omega)⟩

theorem VL.one {cs : List AV} {us : List Value} (h : VL ρ cs us) : ∀ v ∈ us, v.oneCell' = true := fun v hv => by
  obtain ⟨i, hi⟩ := List.mem_iff_getElem?.1 hv
  obtain ⟨x, _, hx⟩ := h.get' hi
  exact hx.oneCell

/-- the store of a value -/
theorem store_sound {h h' : H} {w : World} (hr : R ρ h w) {b o : Nat} {cs : List AV} (hs : h.store b o cs = some h') {l : Loc} (hb : ρ b = some l) {us : List Value} (hu : VL ρ cs us) :
    (storeCells ⟨l.blk, l.off + o, none⟩ us).run P w = .ok () (setCells w l.blk (l.off + o) us) ∧ Post ρ h w ρ h' (setCells w l.blk (l.off + o) us) := by
  unfold H.store at hs
  split at hs
  · rename_i es rs p nx hg
    obtain ⟨hw, hm⟩ := hr.rows hb hg
    have hm := hm rfl
    split at hs
    · rename_i rs' hrs
      cases hs
      obtain ⟨h1, y, h2, h3⟩ := (atN_eq _ _ _ _).1 hrs
      split at h2
      · cases h2
      · rename_i r z hdrop
        split at h2
        · rename_i r' hr'
          cases h2
          have hri : rs[o / es]? = some r := by
            have := congrArg (·[0]?) hdrop
            simpa using this
          have hlt : o / es < rs.length := (List.getElem?_eq_some_iff.1 hri).1
          have hrl := hw.width _ _ hri
          obtain ⟨g1, g2⟩ := atN_over hr'
          have hul := hu.length
          have hoff : o / es * es + o % es = o := by rw [Nat.mul_comm]; exact Nat.div_add_mod o es
          have hfit : o + us.length ≤ rs.length * es := by
            have : (o / es + 1) * es ≤ rs.length * es := Nat.mul_le_mul_right _ hlt
            rw [Nat.add_mul] at this; omega
          obtain ⟨hp, hf⟩ := hm.run hfit
          have hget : ∀ k, rs'[k]? = if k = o / es then some r' else rs[k]? := fun k => by
            rw [h3]
            have ht : (rs.take (o / es)).length = o / es := by simp; omega
            by_cases hk : k < o / es
            · rw [List.getElem?_append_left (by omega), List.getElem?_take, if_pos hk, if_neg (by omega)]
            · rw [List.getElem?_append_right (by omega), ht]
              by_cases hk' : k = o / es
              · subst hk'; simp
              · rw [if_neg hk']
                obtain ⟨m, rfl⟩ : ∃ m, k = o / es + (m + 1) := ⟨k - o / es - 1, by omega⟩
                rw [Nat.add_sub_cancel_left]
                have := congrArg (·[m + 1]?) hdrop
                simp only [List.getElem?_drop] at this
                simpa using this.symm
          have hlen : rs'.length = rs.length := by
            have e1 := congrArg List.length h3
            have e2 := congrArg List.length hdrop
            simp at e1 e2; omega
          have hwid : ∀ (i : Nat) (q : List AV), rs'[i]? = some q → q.length = es := fun i q hq => by
            rw [hget] at hq
            split at hq
            · cases hq; rw [atN_over_len hr', hrl]
            · exact hw.width i q hq
          have hrun := run_storeCells (P := P) l.blk us (l.off + o) 0 w (by simpa using hp) (by simpa using hf) hu.one
          refine ⟨by simpa using hrun, ?_⟩
          have hrest := setCells_rest l.blk us (l.off + o) w
          refine Post.write hr hb hg (fun c hc => setCells_heap l.blk us (l.off + o) w c hc) (setCells_size _ _ _ _) (hw.write hwid hu ?_ hp) (by rw [hlen]; exact hm.write hp) hrest.1 hrest.2.1 hrest.2.2.1
          intro i j q v hq hj
          have hjl : j < es := by rw [← hwid i q hq]; exact (List.getElem?_eq_some_iff.1 hj).1
          rw [hget] at hq
          split at hq
          · rename_i hi; subst hi
            cases hq
            rw [atN_over_get hr'] at hj
            split at hj
            · right; exact ⟨by omega, r, hri, hj⟩
            · split at hj
              · left; exact ⟨by omega, by omega, by rw [← hj]; congr 1; omega⟩
              · right; exact ⟨by omega, r, hri, hj⟩
          · rename_i hi
            right
            refine ⟨fun ⟨q1, q2⟩ => ?_, q, hq, hj⟩
            rcases Nat.lt_or_ge i (o / es) with hlt' | hge
            · have : (i + 1) * es ≤ o / es * es := Nat.mul_le_mul_right _ hlt'
              rw [Nat.add_mul] at this; omega
            · have : (o / es + 1) * es ≤ i * es := Nat.mul_le_mul_right _ (by omega)
              rw [Nat.add_mul] at this; omega
        · cases h2
    · cases hs
  · cases hs

theorem flatten_get' {α : Type} (size : Nat) : ∀ (rows : List (List α)), (∀ (i : Nat) (r : List α), rows[i]? = some r → r.length = size) →
    ∀ (i j : Nat) (r : List α) (x : α), rows[i]? = some r → r[j]? = some x → rows.flatten[i * size + j]? = some x
  | [], _, i, j, r, x, h, _ => by simp at h
  | q :: rows, hw, i, j, r, x, hi, hj => by
    have hq := hw 0 q rfl
    rw [List.flatten_cons]
    cases i with
    | zero =>
      simp at hi; subst hi
      have : j < q.length := (List.getElem?_eq_some_iff.1 hj).1
      rw [Nat.zero_mul, Nat.zero_add, List.getElem?_append_left this]; exact hj
    | succ i =>
      simp at hi
      rw [List.getElem?_append_right (by rw [Nat.add_mul, hq]; omega), hq, Nat.add_mul]
      have := flatten_get' size rows (fun k r hk => hw (k + 1) r (by simpa using hk)) i j r x hi hj
      rw [← this]; congr 1; omega

/-- rows written over those of a block -/
theorem writeRows_sound {h h' : H} {w : World} (hr : R ρ h w) {size b i : Nat} {new : List (List AV)} (hs : h.writeRows size b i new = some h') {l : Loc} (hb : ρ b = some l) (hwn : ∀ (k : Nat) (r : List AV), new[k]? = some r → r.length = size)
    {us : List Value} (hu : VL ρ new.flatten us) :
    (storeCells ⟨l.blk, l.off + i * size, none⟩ us).run P w = .ok () (setCells w l.blk (l.off + i * size) us) ∧ Post ρ h w ρ h' (setCells w l.blk (l.off + i * size) us) := by
  unfold H.writeRows at hs
  split at hs
  · rename_i es rs p nx hg
    split at hs
    · rename_i he
      have he' := Nat.eq_of_beq_eq_true he
      subst he'
      obtain ⟨hw, hm⟩ := hr.rows hb hg
      have hm := hm rfl
      split at hs
      · rename_i rs' hrs
        cases hs
        obtain ⟨g1, g2⟩ := atN_over hrs
        have hul := hu.length
        obtain ⟨f1, f2⟩ := flatten_get es new hwn
        have hfit : i * es + us.length ≤ rs.length * es := by
          rw [hul, f1, ← Nat.add_mul]; exact Nat.mul_le_mul_right _ g1
        obtain ⟨hp, hf⟩ := hm.run hfit
        have hwid : ∀ (k : Nat) (q : List AV), rs'[k]? = some q → q.length = es := fun k q hq => by
          rw [atN_over_get hrs] at hq
          split at hq
          · exact hw.width k q hq
          · split at hq
            · exact hwn _ q hq
            · exact hw.width k q hq
        have hrun := run_storeCells (P := P) l.blk us (l.off + i * es) 0 w (by simpa using hp) (by simpa using hf) hu.one
        refine ⟨by simpa using hrun, ?_⟩
        have hrest := setCells_rest l.blk us (l.off + i * es) w
        refine Post.write hr hb hg (fun c hc => setCells_heap l.blk us (l.off + i * es) w c hc) (setCells_size _ _ _ _) (hw.write hwid hu ?_ hp) (by rw [atN_over_len hrs]; exact hm.write hp) hrest.1 hrest.2.1 hrest.2.2.1
        intro k j q v hq hj
        have hjl : j < es := by rw [← hwid k q hq]; exact (List.getElem?_eq_some_iff.1 hj).1
        rw [atN_over_get hrs] at hq
        split at hq
        · rename_i hk
          right
          refine ⟨fun ⟨q1, _⟩ => ?_, q, hq, hj⟩
          have : (k + 1) * es ≤ i * es := Nat.mul_le_mul_right _ hk
          rw [Nat.add_mul] at this; omega
        · rename_i hk
          split at hq
          · rename_i hk'
            left
            have e1 : i * es ≤ k * es := Nat.mul_le_mul_right _ (by omega)
            have e2 : (k + 1) * es ≤ (i + new.length) * es := Nat.mul_le_mul_right _ (by omega)
            rw [Nat.add_mul, Nat.add_mul] at e2
            refine ⟨by omega, by rw [f1]; omega, ?_⟩
            have := flatten_get' es new hwn (k - i) j q v hq hj
            rw [← this]; congr 1
            rw [Nat.sub_mul]; omega
          · rename_i hk'
            right
            refine ⟨fun ⟨_, q2⟩ => ?_, q, hq, hj⟩
            have : (i + new.length) * es ≤ k * es := Nat.mul_le_mul_right _ (by omega)
            rw [Nat.add_mul] at this; rw [f1] at q2; omega
      · cases hs
    · cases hs
  · cases hs
end
end Go.Abs

/-
  Append.
-/
namespace Go.Abs
open Go

section
variable {P : Program} {E : Env} {ρ : Pl} {fr : T AV} {ev : Operand → Value}

/-- the second argument of an append is no number -/
def srcType (P : Program) (t : TypeId) : Prop := (∃ e, P.underlying t = some (.slice e)) ∨ P.underlying t = some .string

theorem run_append_in {w w' : World} {ts : Array TypeId} {t t2 ty e : TypeId} {i : TypeInfo} (h0 : ts[0]? = some t) (h1 : ts[1]? = some t2) (ht : P.underlying t = some (.slice e)) (ht2 : srcType P t2) (hi : P.info? e = some i)
    {a : Addr} {sLen sCap n : Nat} {q : Value} {news : List Value} (hq : (Builtin.lenOf q).run P w = .ok n w) (hf : (Builtin.firstCells i.size n q).run P w = .ok news.toArray w) (hfit : sLen + n ≤ sCap)
    (hst : (storeCells (a.add (sLen * i.size)) news).run P w = .ok () w') :
    (Builtin.append_ ts ty #[.slice (some a) sLen sCap, q]).run P w = .ok (.slice (some a) (sLen + n) sCap) w' := by
  rcases ht2 with ⟨e2, ht2⟩ | ht2 <;>
  simp [Builtin.append_, h0, h1, run_underlying ht, run_underlying ht2, sizeOf, typeInfo, hi, hq, hfit, hf, hst]

theorem run_append_new {w : World} {ts : Array TypeId} {t t2 ty e : TypeId} {i : TypeInfo} {z : Value} (h0 : ts[0]? = some t) (h1 : ts[1]? = some t2) (ht : P.underlying t = some (.slice e)) (ht2 : srcType P t2) (hi : P.info? e = some i) (hz : i.zero = some z)
    {b : Option Addr} {sLen sCap n : Nat} {q : Value} {olds news : List Value} (hq : (Builtin.lenOf q).run P w = .ok n w) (hf : (Builtin.firstCells i.size n q).run P w.drew = .ok news.toArray w.drew)
    (hfo : (Builtin.firstCells i.size sLen (.slice b sLen sCap)).run P w.drew = .ok olds.toArray w.drew) (hn : sCap < sLen + n) (h63 : sLen + n ≤ 1099511627776) (h48 : (sLen + n) * i.bytes ≤ 1099511627776) :
    (Builtin.append_ ts ty #[.slice b sLen sCap, q]).run P w = .ok (.slice (some ⟨w.heap.size, 0, none⟩) (sLen + n) (grownCap w (sLen + n) sCap e))
      (w.drew.alloc (.cells (olds.toArray ++ news.toArray ++ Builtin.zeroCells z.cells (grownCap w (sLen + n) sCap e - (sLen + n))) e)) := by
  have k1 : ¬ (sLen + n ≤ sCap) := by omega
  have k2 : ¬ (9223372036854775807 < ((sLen : Int) + (n : Int))) := by omega
  have k3 : ¬ (281474976710656 < Builtin.nextslicecap (sLen + n) sCap * i.bytes) := by
    have := growslice_fits (need := sLen + n) (old := sCap) (bytes := i.bytes) hn (by omega)
    omega
  rcases ht2 with ⟨e2, ht2⟩ | ht2 <;>
  · simp [Builtin.append_, h0, h1, run_underlying ht, run_underlying ht2, sizeOf, typeInfo, zeroValue, hi, hz, hq, k1, k2, k3, Question.forced, hf, hfo, newRow, grownCap]
    try (congr 2; apply Array.ext'; simp [List.append_assoc])

/-- nothing is appended -/
theorem run_append_none {w : World} {ts : Array TypeId} {t t2 ty e : TypeId} {i : TypeInfo} (h0 : ts[0]? = some t) (h1 : ts[1]? = some t2) (ht : P.underlying t = some (.slice e)) (ht2 : srcType P t2) (hi : P.info? e = some i)
    {b : Option Addr} {sLen sCap : Nat} {q : Value} (hq : (Builtin.lenOf q).run P w = .ok 0 w) (hf : (Builtin.firstCells i.size 0 q).run P w = .ok #[] w) (hle : sLen ≤ sCap) :
    (Builtin.append_ ts ty #[.slice b sLen sCap, q]).run P w = .ok (.slice b sLen sCap) w := by
  rcases ht2 with ⟨e2, ht2⟩ | ht2 <;> cases b <;>
  simp [Builtin.append_, h0, h1, run_underlying ht, run_underlying ht2, sizeOf, typeInfo, hi, hq, hle, hf, storeCells]

end
end Go.Abs

/-
  Append (2): what may grow in its place or elsewhere.
-/
namespace Go.Abs
open Go

section
variable {P : Program} {E : Env} {ρ : Pl} {fr : T AV} {ev : Operand → Value}

theorem Post.fork {h : H} {w w' : World} {b : Nat} {l l2 : Loc} {es size : Nat} {rs rs' rows2 : List (List AV)} {p nx : Option Nat} (hr : R ρ h w) (hb : ρ b = some l)
    (hx : h.get b = some (.rows es rs false p nx)) (hcase : l2.blk = l.blk ∨ (w.heap.size ≤ l2.blk ∧ l2.blk < w'.heap.size))
    (hold : ∀ c, c ≠ l.blk → c < w.heap.size → w'.heap[c]? = w.heap[c]?) (hsz : w.heap.size ≤ w'.heap.size)
    (ok1 : BlkOk (ρ.add h.n l2) w' l (.rows es rs' false none (some h.n))) (ok2 : BlkOk (ρ.add h.n l2) w' l2 (.rows size rows2 false (some b) none))
    (ht : w'.tape = w.tape) (ho : w'.os = w.os) (hu : w'.output = w.output) :
    Post ρ h w (ρ.add h.n l2) ((((h.kill p).kill nx).new (.rows size rows2 false (some b) none)).put b (.rows es rs' false none (some h.n))) w' := by
  have hbn : b < h.n := by
    rcases Nat.lt_or_ge b h.n with h1 | h1
    · exact h1
    · have := (hr.fresh b h1).2; rw [hb] at this; cases this
  have hfree := (hr.fresh h.n (Nat.le_refl _)).2
  have hget : ∀ c, ((((h.kill p).kill nx).new (.rows size rows2 false (some b) none)).put b (.rows es rs' false none (some h.n))).get c =
      if c = b then some (.rows es rs' false none (some h.n)) else if c = h.n then some (.rows size rows2 false (some b) none) else if nx = some c then some .dead else if p = some c then some .dead else h.get c := fun c => by
    rw [H.get_put, H.get_new, H.get_kill, H.get_kill]; simp
  generalize hh' : ((((h.kill p).kill nx).new (.rows size rows2 false (some b) none)).put b (.rows es rs' false none (some h.n))) = h' at hget
  have hn' : h'.n = h.n + 1 := by rw [← hh']; simp
  have hmine : (Blk.rows es rs false p nx).mine = true := rfl
  have hρ : ∀ c m, c ≠ h.n → ρ.add h.n l2 c = some m → ρ c = some m := fun c m hc h1 => by simpa [Pl.add, hc] using h1
  have hρc : ∀ m, ρ.add h.n l2 h.n = some m → m = l2 := fun m h1 => by simpa [Pl.add, eq_comm] using h1
  have hρb : ρ.add h.n l2 b = some l := by simp [Pl.add, show b ≠ h.n by omega, hb]
  have he := Pl.ext_add (ρ := ρ) (l := l2) hfree
  -- another block that lives: it lived, and lies elsewhere
  have halive : ∀ c y, c ≠ b → c ≠ h.n → h'.get c = some y → y.live = true → h.get c = some y ∧ p ≠ some c ∧ nx ≠ some c := fun c y hc hc' h1 h2 => by
    rw [hget, if_neg hc, if_neg hc'] at h1
    split at h1
    · cases h1; cases h2
    · split at h1
      · cases h1; cases h2
      · exact ⟨h1, by assumption, by assumption⟩
  have hne : ∀ c m y, c ≠ b → c ≠ h.n → ρ c = some m → h'.get c = some y → y.live = true → m.blk ≠ l.blk ∧ m.blk ≠ l2.blk := fun c m y hc hc' h1 h2 h3 => by
    obtain ⟨k1, k2, k3⟩ := halive c y hc hc' h2 h3
    have e1 : m.blk ≠ l.blk := fun e => by
      have := hr.sep b c l m _ y (fun e => hc e.symm) hb h1 hx k1 rfl h3 e.symm
      rcases this with ⟨q, _⟩ | q | q
      · rw [hmine] at q; cases q
      · exact k2 q
      · exact k3 q
    refine ⟨e1, ?_⟩
    rcases hcase with e | ⟨e, _⟩
    · rw [e]; exact e1
    · have := hr.inh _ _ h1; omega
  have hlin := hr.inh _ _ hb
  have hrel : R (ρ.add h.n l2) h' w' := by
    refine ⟨fun c m y h1 h2 => ?_, fun c d m k y z hcd h1 h2 h3 h4 h5 h6 h7 => ?_, fun c hc => ?_, fun c m h1 => ?_, fun c m y d h1 h2 h3 => ?_⟩
    · by_cases hc : c = b
      · subst hc
        rw [hρb] at h1; cases h1
        rw [hget, if_pos rfl] at h2; cases h2
        exact ok1
      · by_cases hc' : c = h.n
        · subst hc'
          rw [hρc _ h1]
          rw [hget, if_neg (by omega), if_pos rfl] at h2; cases h2
          exact ok2
        · cases hy : y.live with
          | false => cases y <;> first | trivial | (cases hy)
          | true =>
            obtain ⟨k1, k2, k3⟩ := halive c y hc hc' h2 hy
            have h1' := hρ c m hc' h1
            exact (hr.blk _ _ _ h1' k1).keep he (hold _ (hne c m y hc hc' h1' h2 hy).1 (hr.inh _ _ h1'))
    · by_cases hc : c = b
      · subst hc
        by_cases hd : d = h.n
        · subst hd
          rw [hget, if_pos rfl] at h3; cases h3
          exact .inr (.inr rfl)
        · rw [hρb] at h1; cases h1
          exact absurd h7.symm (hne d k z (fun e => hcd e.symm) hd (hρ d k hd h2) h4 h6).1
      · by_cases hc' : c = h.n
        · subst hc'
          by_cases hd : d = b
          · subst hd
            rw [hget, if_neg (by omega), if_pos rfl] at h3; cases h3
            exact .inr (.inl rfl)
          · have hd' : d ≠ h.n := fun e => hcd e.symm
            rw [hρc _ h1] at h7
            exact absurd h7.symm (hne d k z hd hd' (hρ d k hd' h2) h4 h6).2
        · have h1' := hρ c m hc' h1
          by_cases hd : d = b
          · subst hd
            rw [hρb] at h2; cases h2
            exact absurd h7 (hne c m y hc hc' h1' h3 h5).1
          · by_cases hd' : d = h.n
            · subst hd'
              rw [hρc _ h2] at h7
              exact absurd h7 (hne c m y hc hc' h1' h3 h5).2
            · obtain ⟨k1, _, _⟩ := halive c y hc hc' h3 h5
              obtain ⟨k2, _, _⟩ := halive d z hd hd' h4 h6
              exact hr.sep c d m k y z hcd h1' (hρ d k hd' h2) k1 k2 h5 h6 h7
    · rw [hn'] at hc
      obtain ⟨k1, k2⟩ := hr.fresh c (by omega)
      refine ⟨?_, by simp [Pl.add, show c ≠ h.n by omega, k2]⟩
      rw [hget, if_neg (by omega), if_neg (by omega)]
      split
      · rename_i e
        have := (hr.links b l _ c hb hx (.inr e)).2.1; omega
      · split
        · rename_i e
          have := (hr.links b l _ c hb hx (.inl e)).2.1; omega
        · exact k1
    · by_cases hc' : c = h.n
      · subst hc'
        rw [hρc _ h1]
        rcases hcase with e | ⟨_, e⟩
        · rw [e]; omega
        · exact e
      · exact Nat.lt_of_lt_of_le (hr.inh _ _ (hρ c m hc' h1)) hsz
    · by_cases hc : c = b
      · subst hc
        rw [hget, if_pos rfl] at h2; cases h2
        simp only [Blk.prev, Blk.next, reduceCtorEq, false_or, Option.some.injEq] at h3
        subst h3
        exact ⟨by simp [Pl.add], by omega, by rw [hget, if_neg (by omega), if_pos rfl]; rfl⟩
      · by_cases hc' : c = h.n
        · subst hc'
          rw [hget, if_neg (by omega), if_pos rfl] at h2; cases h2
          simp only [Blk.prev, Blk.next, reduceCtorEq, or_false, Option.some.injEq] at h3
          subst h3
          exact ⟨by rw [hρb]; rfl, by omega, by rw [hget, if_pos rfl]; rfl⟩
        · cases hy : y.live with
          | false => cases y <;> first | (simp [Blk.prev, Blk.next] at h3; done) | (cases hy)
          | true =>
            obtain ⟨k1, _, _⟩ := halive c y hc hc' h2 hy
            obtain ⟨q1, q2, q3⟩ := hr.links c m y d (hρ c m hc' h1) k1 h3
            obtain ⟨q, hq⟩ := Option.isSome_iff_exists.1 q1
            refine ⟨by rw [he _ _ hq]; rfl, by omega, ?_⟩
            rw [hget]
            split
            · rfl
            · split
              · rfl
              · split
                · rfl
                · split
                  · rfl
                  · exact q3
  refine ⟨he, hrel, hsz, fun c hc hn => hold c (fun e => hn ⟨b, l, _, hb, hx, hmine, e.symm⟩) hc, fun c hc hw => ?_, fun c m h1 h2 => ?_, fun c h1 h2 => ?_, fun c h1 h2 => ?_, by omega, ht, ho, hu⟩
  · obtain ⟨d, m, y, h1, h2, h3, h4⟩ := hw
    by_cases hd : d = b
    · subst hd
      rw [hρb] at h1; cases h1
      exact ⟨d, l, _, hb, hx, hmine, h4⟩
    · by_cases hd' : d = h.n
      · subst hd'
        have := hρc _ h1; subst this
        rcases hcase with e | ⟨e, _⟩
        · exact ⟨b, l, _, hb, hx, hmine, by rw [← e]; exact h4⟩
        · omega
      · have hl : y.live = true := by cases y <;> first | rfl | (cases h3)
        exact ⟨d, m, y, hρ d m hd' h1, (halive d y hd hd' h2 hl).1, h3, h4⟩
  · by_cases hc' : c = h.n
    · subst hc'
      have := hρc _ h2; subst this
      refine ⟨Nat.le_refl _, ?_⟩
      rcases hcase with e | ⟨e, _⟩
      · exact .inr ⟨b, l, _, hb, hx, hmine, e.symm⟩
      · exact .inl e
    · rw [hρ c m hc' h2] at h1; cases h1
  · rw [hget, if_neg (fun e => by subst e; rw [hb] at h1; cases h1), if_neg (by omega)]
    split
    · rename_i e
      have := (hr.links b l _ c hb hx (.inr e)).1; rw [h1] at this; cases this
    · split
      · rename_i e
        have := (hr.links b l _ c hb hx (.inl e)).1; rw [h1] at this; cases this
      · rfl
  · rw [hget, if_neg (fun e => by subst e; rw [hx] at h2; cases h2), if_neg (by omega)]
    split
    · rename_i e
      have := (hr.links b l _ c hb hx (.inr e)).2.2; rw [h2] at this; cases this
    · split
      · rename_i e
        have := (hr.links b l _ c hb hx (.inl e)).2.2; rw [h2] at this; cases this
      · exact h2
end
end Go.Abs

/-
  Append (3).
-/
namespace Go.Abs
open Go

section
variable {P : Program} {E : Env} {ρ : Pl} {fr : T AV} {ev : Operand → Value}

theorem rowsOk_of_flat {w : World} {l : Loc} {size : Nat} {rows : List (List AV)} (hw : ∀ (i : Nat) (r : List AV), rows[i]? = some r → r.length = size) {us : List Value} (hu : VL ρ rows.flatten us)
    (hc : Cells w l.blk l.off us) : RowsOk ρ w l size rows := by
  refine ⟨hw, fun i j r v hi hj => ?_⟩
  have := flatten_get' size rows hw i j r v hi hj
  obtain ⟨u, k1, k2⟩ := hu.get this
  exact ⟨u, k2, by rw [Nat.add_assoc]; exact hc _ _ k1⟩

theorem BlkOk.grown {w : World} {size c : Nat} {rows : List (List AV)} (hw : ∀ (i : Nat) (r : List AV), rows[i]? = some r → r.length = size) {us rest : List Value} (hu : VL ρ rows.flatten us)
    {C : Array Value} (hC : C.toList = us ++ rest) (hs : C.size = c * size) (hle : rows.length ≤ c) (e : TypeId) (p n : Option Nat) :
    BlkOk ρ (w.alloc (.cells C e)) ⟨w.heap.size, 0, c, size⟩ (.rows size rows false p n) := by
  refine ⟨rowsOk_of_flat hw hu fun j u hj => ?_, fun _ => ⟨rfl, fun o ho => by simp, fun o ho => ?_, hle⟩⟩
  · simp only [Nat.zero_add]
    rw [World.cell?_alloc_new, ← Array.getElem?_toList, hC]
    rw [List.getElem?_append_left (List.getElem?_eq_some_iff.1 hj).1]; exact hj
  · have : o < C.size := by rw [hs]; exact ho
    exact ⟨C[o], by simp only [Nat.zero_add]; rw [World.cell?_alloc_new]; simp [this]⟩

theorem Elems.take {w : World} {size : Nat} {rows : List (List AV)} {p : Value} (h : Elems P ρ w size rows p) : ∃ us, VL ρ rows.flatten us ∧ us.length = rows.length * size ∧ ∀ w', w'.heap = w.heap → (Builtin.firstCells size rows.length p).run P w' = .ok us.toArray w' := by
  obtain ⟨us, h1, h2, h3⟩ := h.cells
  refine ⟨us, h1, h2, fun w' hh => ?_⟩
  have := h3 w' rows.length hh (Nat.le_refl _)
  rwa [← h2, List.take_length] at this

theorem wide_append {size : Nat} {a b : List (List AV)} (ha : ∀ (i : Nat) (r : List AV), a[i]? = some r → r.length = size) (hb : ∀ (i : Nat) (r : List AV), b[i]? = some r → r.length = size) :
    ∀ (i : Nat) (r : List AV), (a ++ b)[i]? = some r → r.length = size := fun i r h => by
  rcases Nat.lt_or_ge i a.length with hl | hl
  · rw [List.getElem?_append_left hl] at h; exact ha i r h
  · rw [List.getElem?_append_right hl] at h; exact hb _ r h

/-- the new block of an append -/
theorem grow_new {h : H} {w : World} (hr : R ρ h w) {size : Nat} (hs : 0 < size) {rows : List (List AV)} (hw : ∀ (i : Nat) (r : List AV), rows[i]? = some r → r.length = size) {us : List Value} (hu : VL ρ rows.flatten us)
    {t : TypeId} {te : TI} {i : TypeInfo} {z : Value} {d : TypeDesc} (hT : TIok P t te i z d) (hsz : te.size = size) {c : Nat} (hc : rows.length ≤ c) :
    Post ρ h w (ρ.add h.n ⟨w.heap.size, 0, c, size⟩) (h.new (.rows size rows false none none)) (w.drew.alloc (.cells (us.toArray ++ Builtin.zeroCells z.cells (c - rows.length)) t)) ∧
      VR (ρ.add h.n ⟨w.heap.size, 0, c, size⟩) (.so h.n 0 rows.length size) (.slice (some ⟨w.heap.size, 0, none⟩) rows.length c) := by
  have hzs : z.cells.size = size := by have := (hT.zcells ρ).length; rw [hT.zlen, hsz] at this; simpa using this
  have hul := hu.length
  rw [(flatten_get size rows hw).1] at hul
  have he := Pl.ext_add (ρ := ρ) (l := ⟨w.heap.size, 0, c, size⟩) (hr.fresh h.n (Nat.le_refl _)).2
  refine ⟨Post.birth hr (fun k hk => ?_) (by simp) (Nat.le_refl _) (by simp) ?_ rfl rfl rfl rfl rfl, ⟨⟨w.heap.size, 0, c, size⟩, by simp [Pl.add], rfl, hs, by simpa using hc, .inl (by simp)⟩⟩
  · have := RowKit.Below.heap_alloc w.drew (.cells (us.toArray ++ Builtin.zeroCells z.cells (c - rows.length)) t) k hk
    exact this
  · refine BlkOk.grown (w := w.drew) hw (hu.mono he) (rest := (Builtin.zeroCells z.cells (c - rows.length)).toList) (by simp) ?_ hc t none none
    rw [Array.size_append, size_zeroCells, hzs]
    simp only [List.size_toArray, hul]
    rw [← Nat.add_mul]; congr 1; omega

theorem append_sound {h h' : H} {w : World} (hr : R ρ h w) {ts : Array TypeId} {t t2 ty e : TypeId} (h0 : ts[0]? = some t) (h1 : ts[1]? = some t2) (ht : P.underlying t = some (.slice e)) (ht2 : srcType P t2)
    {te : TI} {i : TypeInfo} {z : Value} {d : TypeDesc} (hT : TIok P e te i z d) {s x v : AV} (hop : appendOp h te.size te.bytes s x = some (v, h')) {p q : Value} (hp : VR ρ s p) (hq : VR ρ x q) :
    ∃ ρ' u w', VR ρ' v u ∧ Post ρ h w ρ' h' w' ∧ (Builtin.append_ ts ty #[p, q]).run P w = .ok u w' := by
  unfold appendOp at hop
  split at hop
  · cases hop
  · rename_i sz hsz
    have hpos : 0 < te.size := by omega
    split at hop
    · cases hop
    · -- nothing to append
      rename_i hrows
      have hel := rowsOf_sound (P := P) hr hrows hq
      obtain ⟨us, e1, e2, e3⟩ := hel.take
      have hus : us = [] := by simpa using e2
      subst hus
      have hf := e3 w rfl
      have hl := hel.len
      simp only [List.length_nil] at hf hl
      rw [← hT.size] at hf
      split at hop
      · cases hop
        have hp' : p = .slice none 0 0 := hp
        subst hp'
        exact ⟨ρ, _, w, rfl, Post.refl hr, run_append_none h0 h1 ht ht2 hT.info hl hf (Nat.le_refl _)⟩
      · split at hop
        · rename_i hle
          cases hop
          obtain ⟨l, hl0, rfl⟩ := hp
          exact ⟨ρ, _, w, ⟨l, hl0, rfl⟩, Post.refl hr, run_append_none h0 h1 ht ht2 hT.info hl hf (Nat.le_of_ble_eq_true hle)⟩
        · cases hop
      · cases hop
        obtain ⟨l, hl0, q1, q2, q3, hp'⟩ := hp
        rcases hp' with rfl | ⟨r1, r2, y, rfl⟩
        · exact ⟨ρ, _, w, ⟨l, hl0, q1, q2, q3, .inl rfl⟩, Post.refl hr, run_append_none h0 h1 ht ht2 hT.info hl hf (by omega)⟩
        · exact ⟨ρ, _, w, ⟨l, hl0, q1, q2, q3, .inr ⟨r1, r2, y, rfl⟩⟩, Post.refl hr, run_append_none h0 h1 ht ht2 hT.info hl hf (by omega)⟩
      · cases hop
        have hz : Top.has .emp p := hp
        obtain ⟨y, c, rfl⟩ := hz
        exact ⟨ρ, _, w, ⟨y, c, rfl⟩, Post.refl hr, run_append_none h0 h1 ht ht2 hT.info hl hf (Nat.zero_le _)⟩
      · cases hop
    · rename_i r0 new' hrows
      have hel := rowsOf_sound (P := P) hr hrows hq
      generalize hnew : r0 :: new' = new at hel hop
      have hnpos : 0 < new.length := by rw [← hnew]; simp
      clear hrows hnew
      obtain ⟨us, e1, e2, e3⟩ := hel.take
      dsimp only at hop
      rw [lenN_eq] at hop
      have hq1 := hel.len
      have e3d := e3 w.drew rfl
      have e3w := e3 w rfl
      rw [← hT.size] at e3d e3w
      split at hop
      · -- onto nil
        split at hop
        · rename_i hb hn
          cases hop
          have hp' : p = .slice none 0 0 := hp
          subst hp'
          have hb' := Nat.le_of_ble_eq_true hb
          have hn' := Nat.le_of_ble_eq_true hn
          have hrun := run_append_new (P := P) (ty := ty) (olds := []) (b := none) (sLen := 0) (sCap := 0) h0 h1 ht ht2 hT.info hT.zero hq1 e3d (by simp [Builtin.firstCells]) (by omega) (by omega) (by rw [hT.bytes, Nat.zero_add]; exact hb')
          have hgc := grownCap_ge w (0 + new.length) 0 e
          obtain ⟨g1, g2⟩ := grow_new (P := P) hr hpos hel.wide e1 hT rfl (c := grownCap w (0 + new.length) 0 e) (by omega)
          refine ⟨_, _, _, g2, g1, ?_⟩
          rw [hrun]; simp
        · cases hop
      · -- onto a slice whose capacity is known
        rename_i b o len cap
        split at hop
        · rename_i hb hn
          have hb' := Nat.le_of_ble_eq_true hb
          have hn' := Nat.le_of_ble_eq_true hn
          split at hop
          · rename_i hcap
            have hcap' := Nat.le_of_ble_eq_true hcap
            split at hop
            · rename_i b2 i2 len2 hslr
              split at hop
              · rename_i h2 hwr
                cases hop
                obtain ⟨l, hl0, hc⟩ := slRow_sound hslr hp
                rcases hc with ⟨c, rfl, ⟨o', he1, he2, _⟩ | ⟨he1, _⟩⟩ | ⟨he1, _⟩
                · cases he1
                  subst he2
                  obtain ⟨k1, k2⟩ := writeRows_sound (P := P) hr hwr hl0 hel.wide e1
                  refine ⟨ρ, _, _, ⟨l, hl0, rfl⟩, k2, ?_⟩
                  refine run_append_in h0 h1 ht ht2 hT.info hq1 e3w hcap' ?_
                  rw [add_plain, hT.size, Nat.add_assoc, ← Nat.add_mul]; exact k1
                · cases he1
                · cases he1
              · cases hop
            · cases hop
          · rename_i hcap
            have hcap' : ¬ (len + new.length ≤ cap) := fun hh => by rw [Nat.ble_eq_true_of_le hh] at hcap; cases hcap
            split at hop
            · cases hop
            · rename_i old hold
              cases hop
              have heo := rowsOf_sound (P := P) hr hold hp
              obtain ⟨uo, o1, o2, o3⟩ := heo.take
              obtain ⟨l, hl0, rfl⟩ := hp
              have hlo := heo.len
              simp only [Builtin.lenOf, Sem.run_pure, Result.ok.injEq, and_true] at hlo
              have o3d := o3 w.drew rfl
              rw [← hT.size, ← hlo] at o3d
              have hrun := run_append_new (P := P) (ty := ty) h0 h1 ht ht2 hT.info hT.zero hq1 e3d o3d (by omega) (by omega) (by rw [hT.bytes]; omega)
              have hgc := grownCap_ge w (len + new.length) cap e
              have hfl : (old ++ new).flatten = old.flatten ++ new.flatten := by simp
              obtain ⟨g1, g2⟩ := grow_new (P := P) hr hpos (wide_append heo.wide hel.wide) (us := uo ++ us) (by rw [hfl]; exact o1.append e1) hT rfl (c := grownCap w (len + new.length) cap e) (by simp; omega)
              have hL : (old ++ new).length = len + new.length := by simp [hlo]
              rw [hL] at g1 g2
              refine ⟨_, _, _, g2, g1, ?_⟩
              rw [hrun]; congr 3; simp
        · cases hop
      · -- onto one whose capacity is not known
        rename_i b i2 len es
        split at hop
        · rename_i hb hn
          have hb' := Nat.le_of_ble_eq_true hb
          have hn' := Nat.le_of_ble_eq_true hn
          split at hop
          · rename_i es' rs pv nx hg
            split at hop
            · rename_i hes hes'
              have q0 := Nat.eq_of_beq_eq_true hes
              have q0' := Nat.eq_of_beq_eq_true hes'
              subst q0 q0'
              obtain ⟨l, hl0, q1, q2, q3, hp'⟩ := hp
              obtain ⟨hw, hm⟩ := hr.rows hl0 hg
              have hm := hm rfl
              -- the value: its capacity, where it begins
              obtain ⟨C, a0, hC, hpp, hcase⟩ : ∃ (C a0 : Nat), C = l.room - i2 ∧ p = .slice (some ⟨l.blk, a0, none⟩) len C ∧ (a0 = l.off + i2 * te.size ∨ (len = 0 ∧ C = 0)) := by
                rcases hp' with hp' | ⟨r1, r2, y, hp'⟩
                · exact ⟨_, _, rfl, hp', .inl rfl⟩
                · exact ⟨_, y, rfl, by rw [hp', r1]; congr 1; omega, .inr ⟨r1, by omega⟩⟩
              subst hpp
              rw [lenN_eq] at hop
              split at hop
              · rename_i hin
                have hin' := Nat.le_of_ble_eq_true hin
                split at hop
                · rename_i h2 hwr
                  cases hop
                  have hroom := hm.room
                  have ha : a0 = l.off + i2 * te.size := by
                    rcases hcase with e | ⟨_, e⟩
                    · exact e
                    · omega
                  subst ha
                  obtain ⟨k1, k2⟩ := writeRows_sound (P := P) hr hwr hl0 hel.wide e1
                  refine ⟨ρ, _, _, ⟨l, hl0, q1, q2, by omega, .inl ?_⟩, k2, run_append_in h0 h1 ht ht2 hT.info hq1 e3w (sCap := C) (by omega) ?_⟩
                  · rw [hC]
                  · rw [add_plain, hT.size, Nat.add_assoc, ← Nat.add_mul]; exact k1
                · cases hop
              · split at hop
                · rename_i hnin rs' hrs'
                  cases hop
                  obtain ⟨t1, t2⟩ := (takeN_eq _ _ _).1 hrs'
                  rw [dropN_eq]
                  have hpre : ∀ (k : Nat) (r : List AV), rs'[k]? = some r → rs[k]? = some r := fun k r hk => by
                    rw [t2, List.getElem?_take] at hk
                    split at hk
                    · exact hk
                    · cases hk
                  have hrl : rs'.length = i2 + len := by rw [t2, List.length_take]; omega
                  -- the rows that the slice has
                  have htk : takeN len (dropN i2 rs) = some (rs'.drop i2) := by
                    rw [takeN_eq, dropN_eq]
                    refine ⟨by simp; omega, ?_⟩
                    rw [t2, List.drop_take, Nat.add_sub_cancel_left]
                  obtain ⟨o1, o2, uo, o3, o4, o5⟩ := rows_cells hw htk
                  have hw2 := wide_append o2 hel.wide
                  have hfl : (rs'.drop i2 ++ new).flatten = (rs'.drop i2).flatten ++ new.flatten := by simp
                  have hu2 : VL ρ (rs'.drop i2 ++ new).flatten (uo ++ us) := by rw [hfl]; exact o3.append e1
                  have hlen2 : (rs'.drop i2 ++ new).length = len + new.length := by simp [hrl]
                  by_cases hfit : len + new.length ≤ C
                  · -- in its place
                    have ha : a0 = l.off + i2 * te.size := by
                      rcases hcase with e | ⟨_, e⟩
                      · exact e
                      · omega
                    subst ha
                    have he := Pl.ext_add (ρ := ρ) (l := ⟨l.blk, l.off + i2 * te.size, l.room - i2, te.size⟩) (hr.fresh h.n (Nat.le_refl _)).2
                    have hroomle : (i2 + len) * te.size + us.length ≤ l.room * te.size := by
                      rw [e2, ← Nat.add_mul]; exact Nat.mul_le_mul_right _ (by omega)
                    have hpres : ∀ j, j < us.length → ∃ u, w.cell? ⟨l.blk, l.off + (i2 + len) * te.size + j, none⟩ = some u := fun j hj => by
                      rw [Nat.add_assoc]; exact hm.there _ (by omega)
                    have hfree : ∀ j, j < us.length → w.frozen? ⟨l.blk, l.off + (i2 + len) * te.size + j, none⟩ = false := fun j hj => by
                      rw [Nat.add_assoc]; exact hm.free _ (by omega)
                    have hrunc := run_storeCells (P := P) l.blk us (l.off + (i2 + len) * te.size) 0 w (by simpa using hpres) (by simpa using hfree) e1.one
                    have hcell := setCells_cell l.blk us (l.off + (i2 + len) * te.size) w hpres
                    have hrest := setCells_rest l.blk us (l.off + (i2 + len) * te.size) w
                    have hmay := hm.write hpres
                    refine ⟨ρ.add h.n ⟨l.blk, l.off + i2 * te.size, l.room - i2, te.size⟩, .slice (some ⟨l.blk, l.off + i2 * te.size, none⟩) (len + new.length) C, setCells w l.blk (l.off + (i2 + len) * te.size) us, ?_, ?_, ?_⟩
                    · exact ⟨_, by simp [Pl.add]; rfl, rfl, q2, by simp; omega, .inl (by simp [hC])⟩
                    · refine Post.fork hr hl0 hg (.inl rfl) (fun c hc _ => setCells_heap l.blk us _ w c hc) (by rw [setCells_size]; omega) ?_ ?_ hrest.1 hrest.2.1 hrest.2.2.1
                      · refine ⟨⟨fun k r hk => hw.width k r (hpre k r hk), fun k j r v hk hj => ?_⟩, fun _ => ⟨hmay.wide, hmay.free, hmay.there, by have := hmay.room; omega⟩⟩
                        obtain ⟨u, m1, m2⟩ := hw.cell k j r v (hpre k r hk) hj
                        refine ⟨u, m1.mono he, ?_⟩
                        have hkl : k < i2 + len := by rw [← hrl]; exact (List.getElem?_eq_some_iff.1 hk).1
                        have hjl : j < te.size := by rw [← hw.width k r (hpre k r hk)]; exact (List.getElem?_eq_some_iff.1 hj).1
                        have : (k + 1) * te.size ≤ (i2 + len) * te.size := Nat.mul_le_mul_right _ hkl
                        rw [Nat.add_mul] at this
                        rw [hcell, if_neg (by omega)]; exact m2
                      · refine ⟨rowsOk_of_flat hw2 (hu2.mono he) fun j u hj => ?_, fun _ => ⟨rfl, fun k hk => ?_, fun k hk => ?_, by rw [hlen2]; show _ ≤ l.room - i2; omega⟩⟩
                        · show (setCells w l.blk (l.off + (i2 + len) * te.size) us).cell? ⟨l.blk, l.off + i2 * te.size + j, none⟩ = some u
                          have hadd : (i2 + len) * te.size = i2 * te.size + len * te.size := Nat.add_mul _ _ _
                          rw [hcell]
                          rcases Nat.lt_or_ge j uo.length with hlt | hge
                          · rw [List.getElem?_append_left hlt] at hj
                            rw [if_neg (by omega)]; exact o5 j u hj
                          · rw [List.getElem?_append_right hge] at hj
                            have := (List.getElem?_eq_some_iff.1 hj).1
                            rw [if_pos (by omega), ← hj]; congr 1; omega
                        · have hk' : k < (l.room - i2) * te.size := hk
                          have : i2 * te.size + k < l.room * te.size := by
                            have e5 : (i2 + (l.room - i2)) * te.size = l.room * te.size := by congr 1; omega
                            rw [Nat.add_mul] at e5; omega
                          have := hmay.free _ this
                          rw [← Nat.add_assoc] at this; exact this
                        · have hk' : k < (l.room - i2) * te.size := hk
                          have : i2 * te.size + k < l.room * te.size := by
                            have e5 : (i2 + (l.room - i2)) * te.size = l.room * te.size := by congr 1; omega
                            rw [Nat.add_mul] at e5; omega
                          have := hmay.there _ this
                          rw [← Nat.add_assoc] at this; exact this
                    · refine run_append_in h0 h1 ht ht2 hT.info hq1 e3w hfit ?_
                      rw [add_plain, hT.size, Nat.add_assoc, ← Nat.add_mul]
                      simpa using hrunc
                  · -- elsewhere
                    have hlenOld : (Builtin.firstCells i.size len (.slice (some ⟨l.blk, a0, none⟩) len C)).run P w.drew = .ok uo.toArray w.drew := by
                      rw [hT.size]
                      refine run_firstCells_some (P := P) w.drew te.size len _ _ _ uo (by rw [o4]) fun j u hj => ?_
                      rw [add_plain]
                      rcases hcase with e | ⟨e, _⟩
                      · rw [e]; exact o5 j u hj
                      · have := (List.getElem?_eq_some_iff.1 hj).1
                        rw [o4, e] at this; omega
                    have hrun := run_append_new (P := P) (ty := ty) h0 h1 ht ht2 hT.info hT.zero hq1 e3d hlenOld (by omega) (by omega) (by rw [hT.bytes]; omega)
                    have hgc := grownCap_ge w (len + new.length) C e
                    generalize hcc : grownCap w (len + new.length) C e = cc at hrun hgc
                    have hzs : z.cells.size = te.size := by have := (hT.zcells ρ).length; rw [hT.zlen] at this; simpa using this
                    have he := Pl.ext_add (ρ := ρ) (l := ⟨w.heap.size, 0, cc, te.size⟩) (hr.fresh h.n (Nat.le_refl _)).2
                    have hul := hu2.length
                    rw [(flatten_get te.size _ hw2).1, hlen2] at hul
                    refine ⟨ρ.add h.n ⟨w.heap.size, 0, cc, te.size⟩, _, _, ?_, ?_, hrun⟩
                    · exact ⟨_, by simp [Pl.add]; rfl, rfl, q2, by simp; omega, .inl (by simp)⟩
                    · have hold : ∀ c, c < w.heap.size → (w.drew.alloc (.cells (uo.toArray ++ us.toArray ++ Builtin.zeroCells z.cells (cc - (len + new.length))) e)).heap[c]? = w.heap[c]? := fun c hc =>
                        RowKit.Below.heap_alloc w.drew _ c hc
                      refine Post.fork hr hl0 hg (.inr ⟨Nat.le_refl _, by simp⟩) (fun c _ hc => hold c hc) (by simp) ?_ ?_ rfl rfl rfl
                      · refine BlkOk.keep (w := w) (ρ := ρ) (x := .rows te.size rs' false none (some h.n)) ⟨⟨fun k r hk => hw.width k r (hpre k r hk), fun k j r v hk hj => hw.cell k j r v (hpre k r hk) hj⟩, fun _ => ⟨hm.wide, hm.free, hm.there, by have := hm.room; omega⟩⟩ he (hold _ (hr.inh _ _ hl0))
                      · refine BlkOk.grown (w := w.drew) hw2 (hu2.mono he) (rest := (Builtin.zeroCells z.cells (cc - (len + new.length))).toList) (by simp) ?_ (by rw [hlen2]; exact hgc) e (some b) none
                        simp only [List.length_append] at hul
                        rw [Array.size_append, Array.size_append, size_zeroCells, hzs]
                        simp only [List.size_toArray]
                        have : (len + new.length) * te.size + (cc - (len + new.length)) * te.size = cc * te.size := by rw [← Nat.add_mul]; congr 1; omega
                        omega
                · cases hop
            · cases hop
          · cases hop
        · cases hop
      · cases hop
end
end Go.Abs
