/-
  A region that draws its order (5): the whole.
-/
import Derived.Test.YtdncenepmkbolaaAbsD4
namespace Go.Abs
open Go

section
variable {P : Program} {E : Env} {call : CallF} {ops : Array Oper} {F : Nat → T AV} {HP : Nat → H} {V : Nat → AV} {h0 : H} {ρ0 : Pl} {w0 : World} {N : Nat} {ds : List Deferred}

section step
variable {listed : Array Bool} {pk : Nat} {ρ : Pl} {a : Act} {w : World} {i : Nat} {o : Oper}

theorem getD_set (listed : Array Bool) (i j : Nat) (hi : i < listed.size) : (listed.setIfInBounds i true).getD j false = if j = i then true else listed.getD j false := by
  by_cases h : j = i
  · subst h; simp [hi]
  · rw [if_neg h, getD_set_ne false (fun e => h e.symm)]

theorem dc_set (inv : Inv E ops F HP V h0 ρ0 w0 N ds listed pk ρ a w) (ho : ops[i]? = some o) (hready : ∀ e ∈ o.after.toList, Region.binds .any e = true → listed.getD e.on false = true) :
    ∀ j, (listed.setIfInBounds i true).getD j false = true → ∀ o', ops[j]? = some o' → ∀ e ∈ o'.after.toList, Region.binds .any e = true → (listed.setIfInBounds i true).getD e.on false = true := by
  intro j hj o' ho' e he hb
  refine getD_set_true ?_
  by_cases hji : j = i
  · subst hji; rw [ho] at ho'; cases ho'; exact hready e he hb
  · rw [getD_set_ne false (fun e => hji e.symm)] at hj
    exact inv.dc j hj o' ho' e he hb

theorem frame_set (inv : Inv E ops F HP V h0 ρ0 w0 N ds listed pk ρ a w) (hst : ∀ j o, ops[j]? = some o → StepOk E call ops.toList h0.n F HP V j j o) (hreg : ∀ j o, ops[j]? = some o → RegOk ops.toList j o)
    (hN : opsOk N ops.toList = true) (ho : ops[i]? = some o) {ρ' : Pl} (he : Ext ρ ρ') {u : Value} (hu : VR ρ' (V i) u) :
    ∀ t v, (F ops.size).get t = some v → (∀ j o, ops[j]? = some o → o.dst = some t → (listed.setIfInBounds i true).getD j false = true) → ∃ u', (a.put o.dst u).tmps[t]? = some u' ∧ VR ρ' v u' := by
  intro t v hv hl
  have hlt : i < ops.size := (Array.getElem?_eq_some_iff.1 ho).1
  by_cases hd : o.dst = some t
  · have := frame_dst hst hreg ho hd ops.size hlt (Nat.le_refl _)
    rw [hv] at this; cases this
    have hts : t < a.tmps.size := by
      rw [inv.size]
      exact opsOk_mem hN o (by rw [List.mem_iff_getElem?]; exact ⟨i, by simpa using ho⟩) t hd
    exact ⟨u, by simp [Act.put, hd, hts], hu⟩
  · obtain ⟨u', h1, h2⟩ := inv.frame t v hv fun j o' ho' hd' => by
      have := hl j o' ho' hd'
      by_cases hji : j = i
      · subst hji; rw [ho] at ho'; cases ho'; exact absurd hd' hd
      · rwa [getD_set_ne false (fun e => hji e.symm)] at this
    refine ⟨u', ?_, h2.mono he⟩
    rw [← h1]
    cases hdd : o.dst with
    | none => rfl
    | some q =>
      simp only [Act.put]
      exact Array.getElem?_setIfInBounds_ne (fun e => hd (by rw [hdd, e]))

/-- an operation that is no effect has run -/
theorem Inv.quiet (inv : Inv E ops F HP V h0 ρ0 w0 N ds listed pk ρ a w) (hst : ∀ j o, ops[j]? = some o → StepOk E call ops.toList h0.n F HP V j j o) (hreg : ∀ j o, ops[j]? = some o → RegOk ops.toList j o)
    (hN : opsOk N ops.toList = true) (ho : ops[i]? = some o) (hready : ∀ e ∈ o.after.toList, Region.binds .any e = true → listed.getD e.on false = true) (hne : isEff o = false)
    {ρ' : Pl} {w' : World} {u : Value} (hu : VR ρ' (V i) u) (he : Ext ρ ρ') (hp : Post ρ0 h0 w0 ρ' (HP pk) w')
    (h1 : ∀ j o x mk, j ≠ i → Al E ops F j o x mk → listed.getD j false = false → ρ' (h0.n + j) = none)
    (h2 : ∀ j o x mk, j ≠ i → Al E ops F j o x mk → listed.getD j false = true → pk ≤ j → ∃ l, ρ' (h0.n + j) = some l ∧ BlkOk ρ' w' l x ∧ (∀ b m, b ≠ h0.n + j → ρ' b = some m → m.blk ≠ l.blk) ∧ w0.heap.size ≤ l.blk ∧ l.blk < w'.heap.size)
    (h3 : ∀ x mk, Al E ops F i o x mk → pk ≤ i → ∃ l, ρ' (h0.n + i) = some l ∧ BlkOk ρ' w' l x ∧ (∀ b m, b ≠ h0.n + i → ρ' b = some m → m.blk ≠ l.blk) ∧ w0.heap.size ≤ l.blk ∧ l.blk < w'.heap.size) :
    Inv E ops F HP V h0 ρ0 w0 N ds (listed.setIfInBounds i true) pk ρ' (a.put o.dst u) w' := by
  have hlt : i < ops.size := (Array.getElem?_eq_some_iff.1 ho).1
  have hil : i < listed.size := by rw [inv.lsz]; exact hlt
  refine ⟨by simp [inv.lsz], dc_set inv ho hready, inv.pkle, fun j o' ho' he' => ?_, inv.pk2, hp, frame_set inv hst hreg hN ho he hu, fun j o' x mk hal hl => ?_, fun j o' x mk hal hl hpk => ?_, inv.abs, inv.room, inv.seg, by rw [put_size]; exact inv.size, by rw [put_defers']; exact inv.defers⟩
  · rw [getD_set _ _ _ hil]
    by_cases hji : j = i
    · subst hji; rw [ho] at ho'; cases ho'; rw [hne] at he'; cases he'
    · rw [if_neg hji]; exact inv.pk1 j o' ho' he'
  · rw [getD_set _ _ _ hil] at hl
    by_cases hji : j = i
    · rw [if_pos hji] at hl; cases hl
    · rw [if_neg hji] at hl
      exact ⟨h1 j o' x mk hji hal hl, (inv.unb j o' x mk hal hl).2⟩
  · rw [getD_set _ _ _ hil] at hl
    by_cases hji : j = i
    · subst hji
      have : o' = o := by have := hal.1; rw [ho] at this; cases this; rfl
      subst this
      exact h3 x mk hal hpk
    · rw [if_neg hji] at hl
      exact h2 j o' x mk hji hal hl hpk

/-- an effect has run -/
theorem Inv.effect (inv : Inv E ops F HP V h0 ρ0 w0 N ds listed pk ρ a w) (hst : ∀ j o, ops[j]? = some o → StepOk E call ops.toList h0.n F HP V j j o) (hreg : ∀ j o, ops[j]? = some o → RegOk ops.toList j o)
    (hN : opsOk N ops.toList = true) (ho : ops[i]? = some o) (hready : ∀ e ∈ o.after.toList, Region.binds .any e = true → listed.getD e.on false = true) (he : isEff o = true) (hpi : pk = i)
    {ρ' : Pl} {w' : World} {u : Value} (hu : VR ρ' (V i) u) (hp : Post ρ (HP i) w ρ' (HP (i + 1)) w') :
    ∃ pk', Inv E ops F HP V h0 ρ0 w0 N ds (listed.setIfInBounds i true) pk' ρ' (a.put o.dst u) w' := by
  subst hpi
  have hlt : pk < ops.size := (Array.getElem?_eq_some_iff.1 ho).1
  have hil : pk < listed.size := by rw [inv.lsz]; exact hlt
  have hroom := inv.room
  have hmono := hp.mono
  obtain ⟨d, d1, d2, d3⟩ := next_eff ops (ops.size - (pk + 1)) (pk + 1) (by omega)
  have hnew : ∀ j, j < ops.size → ρ (h0.n + j) = none → ρ' (h0.n + j) = none := fun j hj h => by
    cases hq : ρ' (h0.n + j) with
    | none => rfl
    | some l => have := (hp.new _ _ h hq).1; omega
  have habs : ∀ j, j < ops.size → pk + 1 ≤ j → (HP (pk + 1)).get (h0.n + j) = none := fun j h1 h2 => hp.absent _ (by omega) (inv.abs j h1 (by omega))
  have hAlt : ∀ {j o x mk}, Al E ops F j o x mk → j < ops.size := fun hal => (Array.getElem?_eq_some_iff.1 hal.1).1
  -- what waits, waits on
  have hpend : ∀ j o x mk, Al E ops F j o x mk → listed.getD j false = true → pk ≤ j → ∃ l, ρ' (h0.n + j) = some l ∧ BlkOk ρ' w' l x ∧ (∀ b m, b ≠ h0.n + j → ρ' b = some m → m.blk ≠ l.blk) ∧ w0.heap.size ≤ l.blk ∧ l.blk < w'.heap.size := fun j o' x mk hal hl hpk => by
    obtain ⟨l, q1, q2, q3, q4, q5⟩ := inv.pend j o' x mk hal hl hpk
    have hno : ¬ Own ρ (HP pk) l.blk := fun ⟨b, m, y, m1, m2, m3, m4⟩ => by
      refine q3 b m (fun e => ?_) m1 m4
      rw [e, inv.abs j (hAlt hal) hpk] at m2; cases m2
    refine ⟨l, hp.ext _ _ q1, q2.keep hp.ext (hp.keep _ q5 hno), fun b m hb hm => ?_, q4, Nat.lt_of_lt_of_le q5 hp.size⟩
    cases hq : ρ b with
    | some m' =>
      have := hp.ext _ _ hq
      rw [hm] at this; cases this
      exact q3 b m hb hq
    | none =>
      rcases (hp.new _ _ hq hm).2 with e | e
      · omega
      · exact fun e' => hno (e' ▸ e)
  obtain ⟨p1, p2, p3, p4, p5⟩ := advance hst (ρ := ρ') (w := w') d (pk + 1) d1 d2 (inv.post.trans hp) (by omega) habs fun j o' x mk h1 h2 hal => by
    cases hl : listed.getD j false with
    | false => exact .inl (hnew j (hAlt hal) (inv.unb j o' x mk hal hl).1)
    | true =>
      obtain ⟨l, q1, q2, q3, q4, _⟩ := hpend j o' x mk hal hl (by omega)
      exact .inr ⟨l, q1, q2, q3, q4⟩
  refine ⟨pk + 1 + d, by simp [inv.lsz], dc_set inv ho hready, d1, fun j o' ho' he' => ?_, d3, p1, frame_set inv hst hreg hN ho hp.ext hu, fun j o' x mk hal hl => ?_, fun j o' x mk hal hl hpk => ?_, p3, p2, ⟨pk + 1, by omega, .inr ⟨o, by simpa using ho, he⟩, p4⟩, by rw [put_size]; exact inv.size, by rw [put_defers']; exact inv.defers⟩
  · rw [getD_set _ _ _ hil]
    by_cases hji : j = pk
    · rw [if_pos hji]; simp; omega
    · rw [if_neg hji, ← inv.pk1 j o' ho' he']
      constructor
      · intro h
        rcases Nat.lt_or_ge j pk with h' | h'
        · exact h'
        · have := d2 j o' (by omega) h ho'; rw [he'] at this; cases this
      · intro h; omega
  · rw [getD_set _ _ _ hil] at hl
    by_cases hji : j = pk
    · rw [if_pos hji] at hl; cases hl
    · rw [if_neg hji] at hl
      obtain ⟨u1, u2⟩ := inv.unb j o' x mk hal hl
      have hjn := hAlt hal
      refine ⟨hnew j hjn u1, fun hjp => ?_⟩
      rcases Nat.lt_or_ge j (pk + 1) with h | h
      · have := u2 (by omega)
        rw [← hp.unborn _ u1 (by omega)] at this
        exact p4 (pk + 1) (Nat.le_refl _) (by omega) _ _ this
      · exact p5 j o' x mk h hjp hal
  · rw [getD_set _ _ _ hil] at hl
    by_cases hji : j = pk
    · omega
    · rw [if_neg hji] at hl
      exact hpend j o' x mk hal hl (by omega)

theorem Inv.step (hE : EnvOk P E) (hcall : CallsOk P call) (inv : Inv E ops F HP V h0 ρ0 w0 N ds listed pk ρ a w) (hst : ∀ j o, ops[j]? = some o → StepOk E call ops.toList h0.n F HP V j j o) (hreg : ∀ j o, ops[j]? = some o → RegOk ops.toList j o)
    (hN : opsOk N ops.toList = true) {hs : List H} (hhs : ∀ k, (k = ops.size ∨ ∃ o, ops[k]? = some o ∧ isEff o = true) → hs[effsTo ops.toList k]? = some (HP k)) (hre : recheck E ops.toList (F ops.size) hs (floats ops.toList (befs ops.toList [])) = true)
    (hi : i ∈ Region.ready .any ops listed) {K : Act → World → Prop} {Q : Exit → Act → World → Prop} (hK : ∀ pk' ρ' a' w', Inv E ops F HP V h0 ρ0 w0 N ds (listed.setIfInBounds i true) pk' ρ' a' w' → K a' w') : wpOp P ops Q i K a w := by
  obtain ⟨hnl', o, ho, hready'⟩ := mem_ready.1 hi
  have hlt : i < ops.size := (Array.getElem?_eq_some_iff.1 ho).1
  have hil : i < listed.size := by rw [inv.lsz]; exact hlt
  have hnl : listed.getD i false = false := by
    simp only [Array.getD_eq_getD_getElem?, hil, getElem?_pos, Option.getD_some] at hnl' ⊢; exact hnl'
  have hready : ∀ e ∈ o.after.toList, Region.binds .any e = true → listed.getD e.on false = true := fun e he hb => hready' e (by simpa using he) hb
  obtain ⟨hk1, hk2⟩ := inv.knows hst hreg ho hready
  have hs := hst i o ho
  -- an effect that is ready is the next one
  have hpi : isEff o = true → pk = i := fun he => by
    have h1 : ¬ i < pk := fun h => by have := (inv.pk1 i o ho he).1 h; rw [hnl] at this; cases this
    rcases Nat.eq_or_lt_of_le (Nat.le_of_not_lt h1) with e | e
    · exact e
    · exfalso
      rcases inv.pk2 with e' | ⟨o', ho', he'⟩
      · omega
      · have hb := (hreg i o ho).eff he pk o' e (by simpa using ho') he'
        have := bef_listed (ops := ops.toList) (L := fun j => listed.getD j false = true) (fun j hj o' ho' e he hb => inv.dc j hj o' (by simpa using ho') e he hb) i o (by simpa using ho) hready pk hb
        have := (inv.pk1 pk o' ho' he').2 this
        omega
  -- nothing of the heap has turned
  have quiet : ∀ {u : Value}, isEff o = false → VR ρ (V i) u → (∀ x mk, ¬ Al E ops F i o x mk) → K (a.put o.dst u) w := fun {u} hne hu hno =>
    hK pk ρ _ w (inv.quiet hst hreg hN ho hready hne hu (Ext.refl _) inv.post (fun j o' x mk _ hal hl => (inv.unb j o' x mk hal hl).1)
      (fun j o' x mk _ hal hl hpk => inv.pend j o' x mk hal hl hpk) (fun x mk hal => absurd hal (hno x mk)))
  unfold wpOp
  simp only [ho]
  rcases hs.step with ⟨hw, hv, hh⟩ | ⟨hw, hstep⟩
  · obtain ⟨hwt, _⟩ := inv.wanted hst hreg ho hready hw
    rw [hwt]
    simp only [Bool.false_eq_true, if_false]
    have hu : VR ρ (V i) undef := by rw [hv]; exact ⟨[], rfl, rfl⟩
    cases he : isEff o with
    | false => exact quiet he hu fun x mk hal => by have := hal.2.2.1; rw [hw] at this; cases this
    | true =>
      have hp := hpi he
      obtain ⟨pk', h⟩ := inv.effect hst hreg hN ho hready he hp hu (w' := w) (by rw [hh, ← hp]; exact Post.refl inv.post.rel)
      exact hK pk' ρ _ w h
  · obtain ⟨hwt, _⟩ := inv.wanted hst hreg ho hready hw
    rw [hwt]
    simp only [if_true]
    left
    cases hc : cls o.op <;> rw [hc] at hstep
    · obtain ⟨u, h1, h2⟩ := pure_sound (P := P) hE hstep.1 hk1
      unfold Oper.wp
      rw [h2 w]
      exact quiet (by simp [isEff, hc]) h1 fun x mk hal => by have := hal.2.1; rw [hc] at this; cases this
    · obtain ⟨x, mk, hx, hvi, hh⟩ := hstep
      obtain ⟨u, C, e, l, h1, h2, h3, h4, h5⟩ := alloc_sound (P := P) hE hx hk1 w
      have hAl : Al E ops F i o x mk := ⟨ho, hc, hw, hx⟩
      obtain ⟨ub1, ub2⟩ := inv.unb i o x mk hAl hnl
      obtain ⟨h6, h7⟩ := h5 _ ub1
      have hold : ∀ c, c < w.heap.size → (w.alloc (.cells C e)).heap[c]? = w.heap[c]? := fun c hc => RowKit.Below.heap_alloc w _ c hc
      have hsz : (w.alloc (.cells C e)).heap.size = w.heap.size + 1 := by simp
      have hroom := inv.room
      have hs0 := inv.post.size
      unfold Oper.wp
      rw [h1]
      refine hK pk (ρ.add (h0.n + i) l) _ _ (inv.quiet hst hreg hN ho hready (by simp [isEff, hc]) (by rw [hvi]; exact h7) (Pl.ext_add ub1) ?_ (fun j o' x' mk' hji hal hl => ?_) (fun j o' x' mk' hji hal hl hpk => ?_) (fun x' mk' hal hpk => ?_))
      · refine inv.post.addLoc (by omega) ub1 (by omega) hold (by omega) (by omega) (by omega) (fun y hy => ?_) rfl rfl rfl
        rcases Nat.lt_or_ge i pk with hip | hip
        · rw [ub2 hip] at hy; cases hy; exact ⟨h6, h3, h4⟩
        · rw [inv.abs i hlt hip] at hy; cases hy
      · have := (inv.unb j o' x' mk' hal hl).1
        simp [Pl.add, hji, this]
      · obtain ⟨m, q1, q2, q3, q4, q5⟩ := inv.pend j o' x' mk' hal hl hpk
        refine ⟨m, by simp [Pl.add, hji, q1], q2.keep (Pl.ext_add ub1) (hold _ q5), fun b y hb hy => ?_, q4, by omega⟩
        by_cases hbi : b = h0.n + i
        · have : y = l := by simpa [Pl.add, hbi, eq_comm] using hy
          rw [this, h2]; omega
        · exact q3 b y hb (by simpa [Pl.add, hbi] using hy)
      · have hxe := hal.2.2.2
        rw [hx] at hxe; cases hxe
        refine ⟨l, by simp [Pl.add], h6, fun b y hb hy => ?_, by omega, by omega⟩
        have hy' : ρ b = some y := by simpa [Pl.add, hb] using hy
        have := inv.post.rel.inh _ _ hy'
        omega
    · have hr := inv.read hst hreg hhs hre ho hnl hready hc hw hstep.1
      have : ∃ u, VR ρ (V i) u ∧ (execOp a.eval o).run P w = .ok (.value u) w := by
        rcases hr with hr | hr
        · exact read_sound hE inv.post.rel hr hk1
        · exact read_sound hE inv.post.rel hr hk2
      obtain ⟨u, h1, h2⟩ := this
      unfold Oper.wp
      rw [h2]
      exact quiet (by simp [isEff, hc]) h1 fun x mk hal => by have := hal.2.1; rw [hc] at this; cases this
    · have he : isEff o = true := by simp [isEff, hc]
      have hp := hpi he
      have hrel := inv.post.rel
      rw [hp] at hrel
      refine eff_sound hE hcall hrel hstep hk1 fun ρ' u w' hu hpo => ?_
      obtain ⟨pk', h⟩ := inv.effect hst hreg hN ho hready he hp hu hpo
      exact hK pk' ρ' _ w' h
end step

/-- all is listed when nothing is ready -/
theorem ready_nil {listed : Array Bool} (hreg : ∀ j o, ops[j]? = some o → RegOk ops.toList j o) (hsz : listed.size = ops.size) (h : Region.ready .any ops listed = []) : ∀ j, j < ops.size → listed.getD j false = true := by
  intro j
  induction j using Nat.strongRecOn with
  | _ j ih =>
    intro hj
    have ho : ops[j]? = some ops[j] := by simp [hj]
    cases hl : listed.getD j false with
    | true => rfl
    | false =>
      exfalso
      have : j ∈ Region.ready .any ops listed := by
        rw [mem_ready]
        refine ⟨?_, ops[j], ho, fun e he hb => ih e.on ((hreg j _ ho).back e (by simpa using he) hb) (Nat.lt_trans ((hreg j _ ho).back e (by simpa using he) hb) hj)⟩
        have hjl : j < listed.size := by rw [hsz]; exact hj
        simp only [Array.getD_eq_getD_getElem?, hjl, getElem?_pos, Option.getD_some] at hl ⊢; exact hl
      rw [h] at this; cases this

theorem count_listed (n : Nat) (listed : Array Bool) : ((List.range n).filter fun j => !listed.getD j false).length ≤ n := by
  have := List.length_filter_le (fun j => !listed.getD j false) (List.range n)
  simpa using this

theorem count_set {listed : Array Bool} {i : Nat} (hi : i < listed.size) (hl : listed.getD i false = false) : ∀ n, i < n → ((List.range n).filter fun j => !(listed.setIfInBounds i true).getD j false).length + 1 = ((List.range n).filter fun j => !listed.getD j false).length
  | 0, h => by omega
  | n + 1, h => by
    rw [List.range_succ, List.filter_append, List.filter_append, List.length_append, List.length_append]
    rcases Nat.lt_or_ge i n with hlt | hge
    · have := count_set hi hl n hlt
      simp only [List.filter_cons, List.filter_nil]
      rw [getD_set listed i n hi, if_neg (show ¬ n = i by omega)]
      cases listed.getD n false <;> simp <;> simpa using this
    · obtain rfl : i = n := by omega
      have hsame : (List.range i).filter (fun j => !(listed.setIfInBounds i true).getD j false) = (List.range i).filter (fun j => !listed.getD j false) := by
        apply List.filter_congr
        intro j hj
        rw [List.mem_range] at hj
        rw [getD_set _ _ _ hi, if_neg (by omega)]
      rw [hsame]
      simp only [List.filter_cons, List.filter_nil]
      rw [getD_set _ _ _ hi, if_pos rfl, hl]
      simp

theorem any_sound (hE : EnvOk P E) (hcall : CallsOk P call) (hst : ∀ j o, ops[j]? = some o → StepOk E call ops.toList h0.n F HP V j j o) (hreg : ∀ j o, ops[j]? = some o → RegOk ops.toList j o)
    (hN : opsOk N ops.toList = true) {hs : List H} (hhs : ∀ k, (k = ops.size ∨ ∃ o, ops[k]? = some o ∧ isEff o = true) → hs[effsTo ops.toList k]? = some (HP k)) (hre : recheck E ops.toList (F ops.size) hs (floats ops.toList (befs ops.toList [])) = true)
    {Q : Exit → Act → World → Prop} (hQ : ∀ ρ' a' w', FR ρ' (F ops.size) a'.tmps → a'.tmps.size = N → a'.defers = ds → Post ρ0 h0 w0 ρ' (HP ops.size) w' → Q .normal a' w') :
    ∀ (fuel : Nat) (listed : Array Bool) (pk : Nat) (ρ : Pl) (a : Act) (w : World), ((List.range ops.size).filter fun j => !listed.getD j false).length ≤ fuel → Inv E ops F HP V h0 ρ0 w0 N ds listed pk ρ a w → wpAny P .any ops Q fuel listed a w := by
  have fin : ∀ (listed : Array Bool) (pk : Nat) (ρ : Pl) (a : Act) (w : World), Inv E ops F HP V h0 ρ0 w0 N ds listed pk ρ a w → (∀ j, j < ops.size → listed.getD j false = true) → Q .normal a w := fun listed pk ρ a w inv hall => by
    have hpk : pk = ops.size := by
      rcases inv.pk2 with e | ⟨o, ho, he⟩
      · exact e
      · have hlt := (Array.getElem?_eq_some_iff.1 ho).1
        have := (inv.pk1 pk o ho he).2 (hall pk hlt)
        omega
    subst hpk
    exact hQ ρ a w (fun t v ht => inv.frame t v ht fun j o ho _ => hall j (Array.getElem?_eq_some_iff.1 ho).1) inv.size inv.defers inv.post
  intro fuel
  induction fuel with
  | zero =>
    intro listed pk ρ a w hc inv
    have hall : ∀ j, j < ops.size → listed.getD j false = true := fun j hj => by
      have h0 : (List.range ops.size).filter (fun j => !listed.getD j false) = [] := List.length_eq_zero_iff.1 (by omega)
      rw [List.filter_eq_nil_iff] at h0
      have := h0 j (by simpa using hj)
      simpa using this
    refine ⟨?_, fin listed pk ρ a w inv hall⟩
    apply List.eq_nil_iff_forall_not_mem.2
    intro j hj
    obtain ⟨h1, o, ho, _⟩ := mem_ready.1 hj
    have hlt := (Array.getElem?_eq_some_iff.1 ho).1
    have := hall j hlt
    have hjl : j < listed.size := by rw [inv.lsz]; exact hlt
    simp only [Array.getD_eq_getD_getElem?, hjl, getElem?_pos, Option.getD_some] at h1 this
    rw [h1] at this; cases this
  | succ fuel ih =>
    intro listed pk ρ a w hc inv
    refine ⟨fun hn => fin listed pk ρ a w inv (ready_nil hreg inv.lsz hn), fun i hi => ?_⟩
    obtain ⟨h1, o, ho, _⟩ := mem_ready.1 hi
    have hlt := (Array.getElem?_eq_some_iff.1 ho).1
    have hil : i < listed.size := by rw [inv.lsz]; exact hlt
    have hnl : listed.getD i false = false := by
      simp only [Array.getD_eq_getD_getElem?, hil, getElem?_pos, Option.getD_some] at h1 ⊢; exact h1
    refine inv.step hE hcall hst hreg hN hhs hre hi fun pk' ρ' a' w' inv' => ih _ pk' ρ' a' w' ?_ inv'
    have := count_set hil hnl ops.size hlt
    omega

/-- A REGION THAT DRAWS ITS ORDER -/
theorem draw_sound (hE : EnvOk P E) (hcall : CallsOk P call) {id : Nat} {fr fr' : T AV} {h h' : H} (hrun : regionA E call ops.toList true fr h = some (fr', h')) (hN : opsOk N ops.toList = true) {ρ : Pl} {a : Act} {w : World} (hf : FR ρ fr a.tmps) (hr : R ρ h w) (hsz : a.tmps.size = N)
    {Q : Exit → Act → World → Prop} (hQ : ∀ ρ' a' w', FR ρ' fr' a'.tmps → a'.tmps.size = N → a'.defers = a.defers → Post ρ h w ρ' h' w' → Q .normal a' w') : (Code.region id ops true).wp P Q a w := by
  simp only [regionA] at hrun
  split at hrun
  · cases hrun
  · rename_i fl hfl
    split at hrun
    · cases hrun
    · rename_i fr2 h2 hs hD
      split at hrun
      · rename_i hre
        cases hrun
        obtain ⟨hreg, hfle⟩ := regSt_spec hfl
        subst hfle
        have hreg' : ∀ j o, ops[j]? = some o → RegOk ops.toList j o := fun j o ho => hreg j o (by simpa using ho)
        obtain ⟨F, HP, V, e1, e2, e3, e4, e5, e6⟩ := runD_trace call ops.toList h.n ops.toList 0 fr ⟨h.t, h.n + lenN ops.toList⟩ fr' h' hs hD
        rw [Array.length_toList] at e3 e4 e6
        have hst : ∀ j o, ops[j]? = some o → StepOk E call ops.toList h.n F HP V j j o := fun j o ho => by
          have := e5 j o (by simpa using ho)
          rwa [Nat.zero_add] at this
        have hhs : ∀ k, (k = ops.size ∨ ∃ o, ops[k]? = some o ∧ isEff o = true) → hs[effsTo ops.toList k]? = some (HP k) := fun k hk => e6 k (by simpa using hk)
        refine wp_region_any hE.mixed ?_
        have hr' : R ρ h { w with drawn := w.drawn + 1 } := hr.world rfl
        -- the heap with numbers kept
        have hget0 : ∀ b, (HP 0).get b = h.get b := fun b => by rw [e2]; rfl
        have hn0 : (HP 0).n = h.n + ops.size := by rw [e2, lenN_eq]; simp
        have hR0 : R ρ (HP 0) { w with drawn := w.drawn + 1 } := by
          refine ⟨fun b l x h1 h2 => hr'.blk b l x h1 (by rw [← hget0]; exact h2), fun b c l m x y h1 h2 h3 h4 h5 h6 h7 h8 => hr'.sep b c l m x y h1 h2 h3 (by rw [← hget0]; exact h4) (by rw [← hget0]; exact h5) h6 h7 h8, fun b hb => ?_, hr'.inh, fun b l x c h1 h2 h3 => ?_⟩
          · rw [hget0]; exact hr'.fresh b (by omega)
          · obtain ⟨q1, q2, q3⟩ := hr'.links b l x c h1 (by rw [← hget0]; exact h2) h3
            exact ⟨q1, by omega, by rw [hget0]; exact q3⟩
        have hP0 : Post ρ h { w with drawn := w.drawn + 1 } ρ (HP 0) { w with drawn := w.drawn + 1 } :=
          ⟨Ext.refl _, hR0, Nat.le_refl _, fun _ _ _ => rfl, fun c _ ⟨b, l, x, h1, h2, h3, h4⟩ => ⟨b, l, x, h1, by rw [← hget0]; exact h2, h3, h4⟩, (fun b l h1 h2 => by rw [h1] at h2; cases h2), fun b _ _ => hget0 b, fun b _ h1 => by rw [hget0]; exact h1, by omega, rfl, rfl, rfl⟩
        have hρn : ∀ j, ρ (h.n + j) = none := fun j => (hr.fresh _ (by omega)).2
        obtain ⟨d, d1, d2, d3⟩ := next_eff ops ops.size 0 (by omega)
        obtain ⟨p1, p2, p3, p4, p5⟩ := advance hst (ρ := ρ) (w := { w with drawn := w.drawn + 1 }) (ρ0 := ρ) (w0 := { w with drawn := w.drawn + 1 }) d 0 d1 d2 hP0 (by omega) (fun j h1 h2 => by rw [hget0]; exact (hr.fresh _ (by omega)).1) fun j o x mk _ _ _ => .inl (hρn j)
        rw [Nat.zero_add] at d1 d2 d3 p1 p2 p3 p4 p5
        have hrep : ∀ j, (Array.replicate ops.size false).getD j false = false := fun j => by
          by_cases hj : j < ops.size <;> simp [hj]
        -- a slot that no operation of the region writes
        have hfr0 : ∀ t, (∀ (j : Nat) (o : Oper), ops[j]? = some o → o.dst ≠ some t) → (F ops.size).get t = fr.get t := fun t ht => by
          have := frame_at hst hreg' (t := t) (i := 0) ops.size (by omega) fun j o _ _ h3 => ht j o h3
          rw [Nat.zero_add, e1] at this; exact this
        refine any_sound (ρ0 := ρ) (w0 := { w with drawn := w.drawn + 1 }) (ds := a.defers) hE hcall hst hreg' hN hhs (by rw [e3]; exact hre) (fun ρ' a' w' q1 q2 q3 q4 => ?_) ops.size (Array.replicate ops.size false) d ρ a { w with drawn := w.drawn + 1 } (count_listed _ _) ?_
        · rw [e3] at q1; rw [e4] at q4
          exact hQ ρ' a' w' q1 q2 q3 (q4.world rfl rfl rfl rfl)
        · refine ⟨by simp, (fun j hj => by rw [hrep] at hj; cases hj), d1, fun j o ho he => ?_, d3, p1, fun t v hv hl => ?_, fun j o x mk hal hl => ?_, (fun j o x mk hal hl => by rw [hrep] at hl; cases hl), fun j h1 h2 => p3 j h1 h2, p2, ⟨0, by omega, .inl rfl, fun m h1 h2 => p4 m h1 h2⟩, hsz, rfl⟩
          · rw [hrep]
            constructor
            · intro h; have := d2 j o (by omega) h ho; rw [he] at this; cases this
            · intro h; cases h
          · rw [hfr0 t (fun j o ho hd => by have := hl j o ho hd; rw [hrep] at this; cases this)] at hv
            exact hf t v hv
          · exact ⟨hρn j, fun h => p5 j o x mk (by omega) h hal⟩
      · cases hrun
end
end Go.Abs
