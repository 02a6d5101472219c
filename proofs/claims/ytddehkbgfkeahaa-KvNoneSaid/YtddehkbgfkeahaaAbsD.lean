/-
  A region that draws its order: what is told of its text; its trace.
-/
import Derived.Test.YtddehkbgfkeahaaAbsE
namespace Go.Abs
open Go

/-! what comes before what -/
def maskOf (acc : List Nat) (o : Oper) : Nat := o.after.toList.foldl (fun s e => if Region.binds .any e then s ||| 2 ^ e.on ||| acc.getD e.on 0 else s) 0

theorem mask_bit (acc : List Nat) (i : Nat) : ∀ (l : List Edge) (s : Nat), Nat.testBit (l.foldl (fun s e => if Region.binds .any e then s ||| 2 ^ e.on ||| acc.getD e.on 0 else s) s) i = true →
    Nat.testBit s i = true ∨ ∃ e ∈ l, Region.binds .any e = true ∧ (e.on = i ∨ Nat.testBit (acc.getD e.on 0) i = true)
  | [], s, h => .inl h
  | e :: l, s, h => by
    rw [List.foldl_cons] at h
    rcases mask_bit acc i l _ h with h1 | ⟨e', h1, h2⟩
    · split at h1
      · rename_i hb
        rw [Nat.testBit_or, Nat.testBit_or, Nat.testBit_two_pow] at h1
        simp only [Bool.or_eq_true, decide_eq_true_eq] at h1
        rcases h1 with (h1 | h1) | h1
        · exact .inl h1
        · exact .inr ⟨e, by simp, hb, .inl h1⟩
        · exact .inr ⟨e, by simp, hb, .inr h1⟩
      · exact .inl h1
    · exact .inr ⟨e', by simp [h1], h2⟩

theorem befs_cons (o : Oper) (r : List Oper) (acc : List Nat) : befs (o :: r) acc = befs r (acc ++ [maskOf acc o]) := rfl
theorem befs_pre : ∀ (l : List Oper) (acc : List Nat), (befs l acc).length = acc.length + l.length ∧ ∀ k, k < acc.length → (befs l acc)[k]? = acc[k]?
  | [], acc => ⟨by simp [befs], fun _ _ => rfl⟩
  | o :: r, acc => by
    rw [befs_cons]
    obtain ⟨h1, h2⟩ := befs_pre r (acc ++ [maskOf acc o])
    refine ⟨by rw [h1]; simp; omega, fun k hk => ?_⟩
    rw [h2 k (by simp; omega), List.getElem?_append_left hk]
theorem befs_at : ∀ (l : List Oper) (acc : List Nat) (j : Nat) (o : Oper), l[j]? = some o → ∃ acc', acc'.length = acc.length + j ∧ (∀ k, k < acc'.length → acc'[k]? = (befs l acc)[k]?) ∧ (befs l acc)[acc.length + j]? = some (maskOf acc' o)
  | [], acc, j, o, h => by simp at h
  | x :: r, acc, j, o, h => by
    rw [befs_cons]
    obtain ⟨p1, p2⟩ := befs_pre r (acc ++ [maskOf acc x])
    cases j with
    | zero =>
      simp at h; subst h
      refine ⟨acc, rfl, fun k hk => ?_, ?_⟩
      · rw [p2 k (by simp; omega), List.getElem?_append_left hk]
      · rw [Nat.add_zero, p2 _ (by simp), List.getElem?_append_right (Nat.le_refl _)]; simp
    | succ j =>
      obtain ⟨acc', q1, q2, q3⟩ := befs_at r (acc ++ [maskOf acc x]) j o (by simpa using h)
      refine ⟨acc', by rw [q1]; simp; omega, q2, ?_⟩
      rw [← q3]; congr 1; simp; omega

/-- whose numbers a mask bears -/
theorem bef_spec {ops : List Oper} {j i : Nat} {o : Oper} (ho : ops[j]? = some o) (h : Nat.testBit ((befs ops []).getD j 0) i = true) :
    ∃ e ∈ o.after.toList, Region.binds .any e = true ∧ (e.on = i ∨ (e.on < j ∧ Nat.testBit ((befs ops []).getD e.on 0) i = true)) := by
  obtain ⟨acc', q1, q2, q3⟩ := befs_at ops [] j o ho
  simp only [List.length_nil, Nat.zero_add] at q1 q3
  rw [List.getD_eq_getElem?_getD, q3] at h
  simp only [Option.getD_some, maskOf] at h
  rcases mask_bit acc' i _ _ h with h1 | ⟨e, h1, h2, h3⟩
  · simp at h1
  · refine ⟨e, h1, h2, h3.imp id fun h4 => ?_⟩
    rcases Nat.lt_or_ge e.on acc'.length with hl | hl
    · refine ⟨by omega, ?_⟩
      rw [List.getD_eq_getElem?_getD, ← q2 _ hl, ← List.getD_eq_getElem?_getD]; exact h4
    · rw [List.getD_eq_getElem?_getD, List.getElem?_eq_none hl] at h4; simp at h4

/-- what is listed, with all that it hangs on -/
theorem bef_listed {ops : List Oper} {L : Nat → Prop} (hdc : ∀ j, L j → ∀ o, ops[j]? = some o → ∀ e ∈ o.after.toList, Region.binds .any e = true → L e.on) :
    ∀ (j : Nat) (o : Oper), ops[j]? = some o → (∀ e ∈ o.after.toList, Region.binds .any e = true → L e.on) → ∀ i, Nat.testBit ((befs ops []).getD j 0) i = true → L i := by
  intro j
  induction j using Nat.strongRecOn with
  | _ j ih =>
    intro o ho hr i hi
    obtain ⟨e, h1, h2, h3⟩ := bef_spec ho hi
    have hl := hr e h1 h2
    rcases h3 with rfl | ⟨h3, h4⟩
    · exact hl
    · have hlt : e.on < ops.length := Nat.lt_trans h3 (List.getElem?_eq_some_iff.1 ho).1
      exact ih e.on h3 ops[e.on] (by simp) (fun e' he' hb' => hdc _ hl _ (by simp) e' he' hb') i h4

/-! what is asked of the text -/
structure RegOk (ops : List Oper) (j : Nat) (o : Oper) : Prop where
  back : ∀ e ∈ o.after.toList, Region.binds .any e = true → e.on < j
  guard : ∀ g want, o.guard = some (g, want) → Nat.testBit ((befs ops []).getD j 0) g = true
  eff : isEff o = true → ∀ i o', i < j → ops[i]? = some o' → isEff o' = true → Nat.testBit ((befs ops []).getD j 0) i = true
  dst : ∀ d, o.dst = some d → ∀ i o', i < j → ops[i]? = some o' → o'.dst ≠ some d
  looks : ∀ t ∈ looks ops o, ∀ i o', ops[i]? = some o' → o'.dst = some t → (i < j ∧ Nat.testBit ((befs ops []).getD j 0) i = true) ∨ (isRead o = false ∧ j < i ∧ Nat.testBit ((befs ops []).getD i 0) j = true)

theorem regGo_spec {ops : List Oper} : ∀ (l : List Oper) (i : Nat), ops.drop i = l → regGo ops (befs ops []) l i = true → ∀ k o, l[k]? = some o → RegOk ops (i + k) o
  | [], i, _, _, k, o, h => by simp at h
  | x :: r, i, hd, h, k, o, hk => by
    simp only [regGo, Bool.and_eq_true] at h
    obtain ⟨⟨⟨⟨⟨h1, h2⟩, h3⟩, h4⟩, h5⟩, h6⟩ := h
    cases k with
    | succ k =>
      have := regGo_spec r (i + 1) (by rw [← List.drop_drop, hd]; rfl) h6 k o (by simpa using hk)
      rw [show i + (k + 1) = i + 1 + k from by omega]; exact this
    | zero =>
      simp at hk; subst hk
      rw [Nat.add_zero]
      refine ⟨fun e he hb => ?_, fun g want hg => ?_, fun he i' o' hi' ho' he' => ?_, fun d hd' i' o' hi' ho' he' => ?_, fun t ht i' o' ho' he' => ?_⟩
      · have := List.all_eq_true.1 h1 e he
        simpa [hb, Nat.blt_eq] using this
      · rw [hg] at h2; exact h2
      · rw [he] at h3
        simp only [Bool.not_true, Bool.false_or] at h3
        have := List.all_eq_true.1 h3 i' (by simpa using hi')
        simpa [ho', he'] using this
      · rw [hd'] at h4
        have := List.all_eq_true.1 h4 i' (by simpa using hi')
        simp [ho', he'] at this
      · have h5' := List.all_eq_true.1 h5 t ht
        have hlt : i' < ops.length := (List.getElem?_eq_some_iff.1 ho').1
        have := List.all_eq_true.1 h5' i' (by simpa using hlt)
        simpa [ho', he', Nat.blt_eq, and_assoc] using this

theorem regSt_spec {ops : List Oper} {fl : List (Nat × Nat)} (h : regSt ops = some fl) : (∀ j o, ops[j]? = some o → RegOk ops j o) ∧ fl = floats ops (befs ops []) := by
  unfold regSt at h
  simp only at h
  split at h
  · rename_i hg
    cases h
    refine ⟨fun j o ho => ?_, rfl⟩
    have := regGo_spec ops 0 (by simp) hg j o ho
    rwa [Nat.zero_add] at this
  · cases h

section
variable {E : Env}

/-! the trace -/
structure StepOk (E : Env) (call : CallF) (ops : List Oper) (base : Nat) (F : Nat → T AV) (HP : Nat → H) (V : Nat → AV) (i j : Nat) (o : Oper) : Prop where
  next : F (i + 1) = putD (F i) o.dst (V i)
  step : (wantedA ops (F i) o = some false ∧ V i = .tup [] ∧ HP (i + 1) = HP i) ∨ (wantedA ops (F i) o = some true ∧
    match cls o.op with
    | .pure => pureA E (F i) o.op = some (V i) ∧ HP (i + 1) = HP i
    | .read => readA E (F i) (HP i) o.op = some (V i) ∧ HP (i + 1) = HP i
    | .alloc => ∃ x mk, allocA E (F i) o.op = some (x, mk) ∧ V i = mk (base + j) ∧ HP (i + 1) = (HP i).put (base + j) x
    | .eff => effA E call (F i) (HP i) o.op = some (V i, HP (i + 1)))

theorem runD_cons (call : CallF) (ops : List Oper) (base : Nat) (o : Oper) (r : List Oper) (i : Nat) (fr : T AV) (h : H) : runD E call ops base (o :: r) i fr h =
    match cls o.op with
    | .pure => match wantedA ops fr o with
      | some true => match pureA E fr o.op with
        | some v => runD E call ops base r (i + 1) (putD fr o.dst v) h
        | none => none
      | some false => runD E call ops base r (i + 1) (putD fr o.dst (.tup [])) h
      | none => none
    | .read => match wantedA ops fr o with
      | some true => match readA E fr h o.op with
        | some v => runD E call ops base r (i + 1) (putD fr o.dst v) h
        | none => none
      | some false => runD E call ops base r (i + 1) (putD fr o.dst (.tup [])) h
      | none => none
    | .alloc => match wantedA ops fr o with
      | some true => match allocA E fr o.op with
        | some (x, mk) => runD E call ops base r (i + 1) (putD fr o.dst (mk (base + i))) (h.put (base + i) x)
        | none => none
      | some false => runD E call ops base r (i + 1) (putD fr o.dst (.tup [])) h
      | none => none
    | .eff => match wantedA ops fr o with
      | some true => match effA E call fr h o.op with
        | some (v, h') => match runD E call ops base r (i + 1) (putD fr o.dst v) h' with
          | some (fr', h'', hs) => some (fr', h'', h :: hs)
          | none => none
        | none => none
      | some false => match runD E call ops base r (i + 1) (putD fr o.dst (.tup [])) h with
          | some (fr', h'', hs) => some (fr', h'', h :: hs)
          | none => none
      | none => none := rfl

def shift {α : Type} (x : α) (f : Nat → α) : Nat → α
  | 0 => x
  | n + 1 => f n

theorem effsTo_zero (l : List Oper) : effsTo l 0 = 0 := by simp [effsTo]
theorem effsTo_cons (o : Oper) (r : List Oper) (k : Nat) : effsTo (o :: r) (k + 1) = (if isEff o then 1 else 0) + effsTo r k := by
  simp only [effsTo, List.take_succ_cons, List.filter_cons]
  split <;> simp <;> omega

theorem runD_trace (call : CallF) (ops : List Oper) (base : Nat) : ∀ (l : List Oper) (i : Nat) (fr : T AV) (h : H) (fr' : T AV) (h' : H) (hs : List H), runD E call ops base l i fr h = some (fr', h', hs) →
    ∃ (F : Nat → T AV) (HP : Nat → H) (V : Nat → AV), F 0 = fr ∧ HP 0 = h ∧ F l.length = fr' ∧ HP l.length = h' ∧ (∀ k o, l[k]? = some o → StepOk E call ops base F HP V k (i + k) o) ∧
      ∀ k, (k = l.length ∨ ∃ o, l[k]? = some o ∧ isEff o = true) → hs[effsTo l k]? = some (HP k)
  | [], i, fr, h, fr', h', hs, hrun => by
    cases hrun
    refine ⟨fun _ => fr, fun _ => h, fun _ => .nilp, rfl, rfl, rfl, rfl, by simp, fun k hk => ?_⟩
    simp [effsTo]
  | o :: r, i, fr, h, fr', h', hs, hrun => by
    -- what is common: one step, then the rest
    have go : ∀ (v : AV) (h1 : H) (hs1 : List H), runD E call ops base r (i + 1) (putD fr o.dst v) h1 = some (fr', h', hs1) →
        (∀ (F : Nat → T AV) (HP : Nat → H) (V : Nat → AV), F 0 = fr → HP 0 = h → V 0 = v → F 1 = putD fr o.dst v → HP 1 = h1 → StepOk E call ops base F HP V 0 i o) →
        hs = (if isEff o then h :: hs1 else hs1) →
        ∃ (F : Nat → T AV) (HP : Nat → H) (V : Nat → AV), F 0 = fr ∧ HP 0 = h ∧ F (o :: r).length = fr' ∧ HP (o :: r).length = h' ∧ (∀ k o', (o :: r)[k]? = some o' → StepOk E call ops base F HP V k (i + k) o') ∧
          ∀ k, (k = (o :: r).length ∨ ∃ o', (o :: r)[k]? = some o' ∧ isEff o' = true) → hs[effsTo (o :: r) k]? = some (HP k) := by
      intro v h1 hs1 hr hst hhs
      obtain ⟨F, HP, V, q1, q2, q3, q4, q5, q6⟩ := runD_trace call ops base r (i + 1) _ h1 fr' h' hs1 hr
      refine ⟨shift fr F, shift h HP, shift v V, rfl, rfl, q3, q4, fun k o' hk => ?_, fun k hk => ?_⟩
      · cases k with
        | zero =>
          simp at hk; subst hk
          exact hst _ _ _ rfl rfl rfl q1 q2
        | succ k =>
          have := q5 k o' (by simpa using hk)
          rw [show i + (k + 1) = i + 1 + k from by omega]
          exact ⟨this.next, this.step⟩
      · cases k with
        | zero =>
          rw [effsTo_zero]
          rcases hk with hk | ⟨o', hk, he⟩
          · simp at hk
          · simp at hk; subst hk
            rw [hhs, if_pos he]; rfl
        | succ k =>
          have := q6 k (hk.imp (by simp) fun ⟨o', h1, h2⟩ => ⟨o', by simpa using h1, h2⟩)
          change _ = some (HP k)
          rw [effsTo_cons, hhs]
          split
          · rename_i he; rw [Nat.add_comm]; simpa using this
          · simpa using this
    rw [runD_cons] at hrun
    split at hrun
    · rename_i hc
      have hne : isEff o = false := by simp [isEff, hc]
      split at hrun
      · rename_i hw
        split at hrun
        · rename_i v hv
          exact go v h hs hrun (fun F HP V e0 e1 e2 e3 e4 => ⟨by rw [e3, e0, e2], .inr ⟨by rw [e0]; exact hw, by rw [hc, e0, e2, e1, e4]; exact ⟨hv, rfl⟩⟩⟩) (by simp [hne])
        · cases hrun
      · rename_i hw
        exact go (.tup []) h hs hrun (fun F HP V e0 e1 e2 e3 e4 => ⟨by rw [e3, e0, e2], .inl ⟨by rw [e0]; exact hw, e2, by rw [e4, e1]⟩⟩) (by simp [hne])
      · cases hrun
    · rename_i hc
      have hne : isEff o = false := by simp [isEff, hc]
      split at hrun
      · rename_i hw
        split at hrun
        · rename_i v hv
          exact go v h hs hrun (fun F HP V e0 e1 e2 e3 e4 => ⟨by rw [e3, e0, e2], .inr ⟨by rw [e0]; exact hw, by rw [hc, e0, e2, e1, e4]; exact ⟨hv, rfl⟩⟩⟩) (by simp [hne])
        · cases hrun
      · rename_i hw
        exact go (.tup []) h hs hrun (fun F HP V e0 e1 e2 e3 e4 => ⟨by rw [e3, e0, e2], .inl ⟨by rw [e0]; exact hw, e2, by rw [e4, e1]⟩⟩) (by simp [hne])
      · cases hrun
    · rename_i hc
      have hne : isEff o = false := by simp [isEff, hc]
      split at hrun
      · rename_i hw
        split at hrun
        · rename_i x mk hv
          exact go (mk (base + i)) _ hs hrun (fun F HP V e0 e1 e2 e3 e4 => ⟨by rw [e3, e0, e2], .inr ⟨by rw [e0]; exact hw, by rw [hc, e0, e2, e1, e4]; exact ⟨x, mk, hv, rfl, rfl⟩⟩⟩) (by simp [hne])
        · cases hrun
      · rename_i hw
        exact go (.tup []) h hs hrun (fun F HP V e0 e1 e2 e3 e4 => ⟨by rw [e3, e0, e2], .inl ⟨by rw [e0]; exact hw, e2, by rw [e4, e1]⟩⟩) (by simp [hne])
      · cases hrun
    · rename_i hc
      have hne : isEff o = true := by simp [isEff, hc]
      split at hrun
      · rename_i hw
        split at hrun
        · rename_i v h1 hv
          split at hrun
          · rename_i fr2 h2 hs2 hr2
            cases hrun
            exact go v h1 hs2 hr2 (fun F HP V e0 e1 e2 e3 e4 => ⟨by rw [e3, e0, e2], .inr ⟨by rw [e0]; exact hw, by rw [hc, e0, e2, e1, e4]; exact hv⟩⟩) (by simp [hne])
          · cases hrun
        · cases hrun
      · rename_i hw
        split at hrun
        · rename_i fr2 h2 hs2 hr2
          cases hrun
          exact go (.tup []) h hs2 hr2 (fun F HP V e0 e1 e2 e3 e4 => ⟨by rw [e3, e0, e2], .inl ⟨by rw [e0]; exact hw, e2, by rw [e4, e1]⟩⟩) (by simp [hne])
        · cases hrun
      · cases hrun
end
end Go.Abs

/-
  A region that draws its order (2): small laws.
-/
namespace Go.Abs
open Go

section
variable {P : Program} {E : Env} {ρ : Pl}

theorem R.put_absent {h : H} {w : World} {id : Nat} {x : Blk} (hr : R ρ h w) (h0 : h.get id = none) (hn : id < h.n) (hp : x.prev = none) (hnx : x.next = none)
    (hc : ρ id = none ∨ ∃ l, ρ id = some l ∧ BlkOk ρ w l x ∧ ∀ b m, b ≠ id → ρ b = some m → m.blk ≠ l.blk) : R ρ (h.put id x) w := by
  have hg : ∀ c, c ≠ id → (h.put id x).get c = h.get c := fun c hc => by rw [H.get_put, if_neg hc]
  have hx : (h.put id x).get id = some x := by rw [H.get_put, if_pos rfl]
  have hds : ∀ l, ρ id = some l → BlkOk ρ w l x ∧ ∀ b m, b ≠ id → ρ b = some m → m.blk ≠ l.blk := fun l hl => by
    rcases hc with h1 | ⟨l', h1, h2, h3⟩
    · rw [hl] at h1; cases h1
    · rw [hl] at h1; cases h1; exact ⟨h2, h3⟩
  refine ⟨fun b l y h1 h2 => ?_, fun b c l m y z hbc h1 h2 h3 h4 h5 h6 h7 => ?_, fun b hb => ?_, hr.inh, fun b l y c h1 h2 h3 => ?_⟩
  · by_cases e : b = id
    · subst e; rw [hx] at h2; cases h2; exact (hds l h1).1
    · rw [hg b e] at h2; exact hr.blk b l y h1 h2
  · by_cases e : b = id
    · subst e
      exact absurd h7.symm ((hds l h1).2 c m (fun e => hbc e.symm) h2)
    · by_cases e' : c = id
      · subst e'
        exact absurd h7 ((hds m h2).2 b l e h1)
      · rw [hg b e] at h3; rw [hg c e'] at h4
        exact hr.sep b c l m y z hbc h1 h2 h3 h4 h5 h6 h7
  · have hb' : h.n ≤ b := hb
    rw [hg b (by omega)]; exact hr.fresh b hb'
  · by_cases e : b = id
    · subst e; rw [hx] at h2; cases h2; rw [hp, hnx] at h3; simp at h3
    · rw [hg b e] at h2
      obtain ⟨q1, q2, q3⟩ := hr.links b l y c h1 h2 h3
      refine ⟨q1, q2, ?_⟩
      rw [H.get_put]; split
      · rfl
      · exact q3

theorem Post.put_absent {ρ0 : Pl} {h0 h : H} {w0 w : World} {id : Nat} {x : Blk} (hp : Post ρ0 h0 w0 ρ h w) (hid : h0.n ≤ id) (hn : id < h.n) (hg0 : h.get id = none) (hxp : x.prev = none) (hxn : x.next = none)
    (hc : ρ id = none ∨ ∃ l, ρ id = some l ∧ BlkOk ρ w l x ∧ (∀ b m, b ≠ id → ρ b = some m → m.blk ≠ l.blk) ∧ w0.heap.size ≤ l.blk) : Post ρ0 h0 w0 ρ (h.put id x) w := by
  have hg : ∀ c, c ≠ id → (h.put id x).get c = h.get c := fun c hc => by rw [H.get_put, if_neg hc]
  refine ⟨hp.ext, hp.rel.put_absent hg0 hn hxp hxn (hc.imp_right fun ⟨l, h1, h2, h3, _⟩ => ⟨l, h1, h2, h3⟩), hp.size, hp.keep, fun c hcl ho => ?_, hp.new, fun b h1 h2 => ?_, fun b h1 h2 => ?_, hp.mono, hp.tape, hp.os, hp.output⟩
  · obtain ⟨b, l, y, h1, h2, h3, h4⟩ := ho
    by_cases e : b = id
    · subst e
      rcases hc with h5 | ⟨l', h5, _, _, h6⟩
      · rw [h1] at h5; cases h5
      · rw [h1] at h5; cases h5; omega
    · rw [hg b e] at h2
      exact hp.own c hcl ⟨b, l, y, h1, h2, h3, h4⟩
  · rw [hg b (by omega)]; exact hp.unborn b h1 h2
  · rw [hg b (by omega)]; exact hp.absent b h1 h2

/-- a block is born under a number that was kept for it -/
theorem R.addLoc {h : H} {w w' : World} {id : Nat} {l : Loc} (hr : R ρ h w) (hb : ρ id = none) (hn : id < h.n) (hold : ∀ c, c < w.heap.size → w'.heap[c]? = w.heap[c]?) (hsz : w.heap.size ≤ w'.heap.size)
    (hl : w.heap.size ≤ l.blk) (hl' : l.blk < w'.heap.size) (hx : ∀ x, h.get id = some x → BlkOk (ρ.add id l) w' l x ∧ x.prev = none ∧ x.next = none) : R (ρ.add id l) h w' := by
  cases hgi : h.get id with
  | some x =>
    obtain ⟨h1, h2, h3⟩ := hx x hgi
    exact hr.birth hb hn (Nat.le_refl _) hold hsz hl hl' hgi (fun c _ => rfl) h1 h2 h3
  | none =>
    have he := Pl.ext_add (ρ := ρ) (l := l) hb
    have hρ : ∀ c m, c ≠ id → ρ.add id l c = some m → ρ c = some m := fun c m hc h1 => by simpa [Pl.add, hc] using h1
    have hne : ∀ c y, h.get c = some y → c ≠ id := fun c y hc e => by subst e; rw [hgi] at hc; cases hc
    refine ⟨fun c m y h1 h2 => ?_, fun c d m k y z hcd h1 h2 h3 h4 h5 h6 h7 => ?_, fun c hc => ?_, fun c m h1 => ?_, fun c m y d h1 h2 h3 => ?_⟩
    · have := hρ c m (hne c y h2) h1
      exact (hr.blk _ _ _ this h2).keep he (hold _ (hr.inh _ _ this))
    · exact hr.sep c d m k y z hcd (hρ c m (hne c y h3) h1) (hρ d k (hne d z h4) h2) h3 h4 h5 h6 h7
    · obtain ⟨k1, k2⟩ := hr.fresh c hc
      exact ⟨k1, by simp [Pl.add, show c ≠ id by omega, k2]⟩
    · by_cases hc : c = id
      · subst hc
        have : m = l := by simpa [Pl.add, eq_comm] using h1
        rw [this]; exact hl'
      · exact Nat.lt_of_lt_of_le (hr.inh _ _ (hρ c m hc h1)) hsz
    · obtain ⟨q1, q2, q3⟩ := hr.links c m y d (hρ c m (hne c y h2) h1) h2 h3
      obtain ⟨q, hq⟩ := Option.isSome_iff_exists.1 q1
      exact ⟨by rw [he _ _ hq]; rfl, q2, q3⟩

theorem Post.addLoc {ρ0 : Pl} {h0 h : H} {w0 w w' : World} {id : Nat} {l : Loc} (hp : Post ρ0 h0 w0 ρ h w) (hid : h0.n ≤ id) (hb : ρ id = none) (hn : id < h.n) (hold : ∀ c, c < w.heap.size → w'.heap[c]? = w.heap[c]?) (hsz : w.heap.size ≤ w'.heap.size)
    (hl : w.heap.size ≤ l.blk) (hl' : l.blk < w'.heap.size) (hx : ∀ x, h.get id = some x → BlkOk (ρ.add id l) w' l x ∧ x.prev = none ∧ x.next = none) (ht : w'.tape = w.tape) (ho : w'.os = w.os) (hu : w'.output = w.output) :
    Post ρ0 h0 w0 (ρ.add id l) h w' := by
  have hs0 := hp.size
  refine ⟨hp.ext.trans (Pl.ext_add hb), hp.rel.addLoc hb hn hold hsz hl hl' hx, Nat.le_trans hp.size hsz, fun c hc hno => (hold c (by omega)).trans (hp.keep c hc hno), fun c hc hw => ?_, fun b m h1 h2 => ?_, hp.unborn, hp.absent, hp.mono, ht.trans hp.tape, ho.trans hp.os, hu.trans hp.output⟩
  · obtain ⟨b, m, y, h1, h2, h3, h4⟩ := hw
    by_cases e : b = id
    · subst e
      have : m = l := by simpa [Pl.add, eq_comm] using h1
      subst this; omega
    · exact hp.own c hc ⟨b, m, y, by simpa [Pl.add, e] using h1, h2, h3, h4⟩
  · by_cases e : b = id
    · subst e
      have : m = l := by simpa [Pl.add, eq_comm] using h2
      subst this; exact ⟨hid, .inl (by omega)⟩
    · exact hp.new b m h1 (by simpa [Pl.add, e] using h2)

/-! reads see no more than what is there -/
def Sub (h h' : H) : Prop := ∀ b x, h.get b = some x → h'.get b = some x
theorem load_mono {h h' : H} (hs : Sub h h') {b o n : Nat} {cs : List AV} (hl : h.load b o n = some cs) : h'.load b o n = some cs := by
  unfold H.load at hl ⊢
  split at hl
  · rename_i es rs ro p nx hg
    rw [hs _ _ hg]; exact hl
  · cases hl
theorem rowsOf_mono {h h' : H} (hs : Sub h h') {size : Nat} {v : AV} {rows : List (List AV)} (hl : rowsOf h size v = some rows) : rowsOf h' size v = some rows := by
  unfold rowsOf at hl ⊢
  split at hl
  · exact hl
  · exact hl
  · exact hl
  · split at hl
    · rename_i b i len hsl
      split at hl
      · exact hl
      · split at hl
        · rename_i es rs ro p nx hg
          rw [hs _ _ hg]; exact hl
        · cases hl
    · cases hl
theorem read_mono {fr : T AV} {h h' : H} (hs : Sub h h') {op : Op} {v : AV} (hv : readA E fr h op = some v) : readA E fr h' op = some v := by
  cases op <;> simp only [readA] at hv ⊢ <;> try (first | exact hv | (cases hv; done))
  case load t x =>
    split at hv
    · rename_i ti b o hti hx
      split at hv
      · rename_i cs hcs
        rw [load_mono hs hcs]; exact hv
      · cases hv
    · cases hv
  case lookup t x ix ok =>
    split at hv
    · rename_i ti b k hti hx hix
      split at hv
      · rename_i kt et hke
        split at hv
        · rename_i tk te es htk hte hget
          simp only [hti, hx, hix, hke, htk, hte, hs _ _ hget]; exact hv
        · cases hv
      · cases hv
    · cases hv
  case call c =>
    repeat' split at hv
    all_goals first
      | exact hv
      | (cases hv; done)
      | (rename_i hget; simp only [hs _ _ hget]; exact hv)
  case convert src dst x =>
    split at hv
    · rename_i si ti a hsi hti hx
      split at hv
      · exact hv
      · exact hv
      · rename_i hk hns
        split at hv
        · rename_i e hse
          split at hv
          · rename_i te hte
            split at hv
            · rename_i hek
              split at hv
              · rename_i rs hrs
                rw [rowsOf_mono hs hrs]; exact hv
              · cases hv
            · cases hv
          · cases hv
        · cases hv
      · cases hv
    · cases hv

theorem same_top (q : Top) (b : AV) (h : sameV (.top q) b = true) : AV.top q = b := by
  cases q with
  | emp =>
    cases b with
    | top r => cases r <;> first | rfl | (simp [sameV] at h)
    | _ => simp [sameV] at h
  | _ => cases b <;> simp [sameV] at h
mutual
theorem sameV_eq : ∀ (a b : AV), sameV a b = true → a = b
  | .bool a, b, h => by cases b <;> simp [sameV] at h; rw [h]
  | .int k n, b, h => by cases b <;> simp [sameV] at h; rw [h.1, h.2]
  | .str s, b, h => by cases b <;> simp [sameV] at h; rw [h]
  | .ptr x y, b, h => by cases b <;> simp [sameV] at h; rw [h.1, h.2]
  | .nilp, b, h => by cases b <;> simp [sameV] at h; rfl
  | .sl x y z u, b, h => by cases b <;> simp [sameV] at h; obtain ⟨⟨⟨h1, h2⟩, h3⟩, h4⟩ := h; rw [h1, h2, h3, h4]
  | .so x y z u, b, h => by cases b <;> simp [sameV] at h; obtain ⟨⟨⟨h1, h2⟩, h3⟩, h4⟩ := h; rw [h1, h2, h3, h4]
  | .nils, b, h => by cases b <;> simp [sameV] at h; rfl
  | .mp x, b, h => by cases b <;> simp [sameV] at h; rw [h]
  | .nilm, b, h => by cases b <;> simp [sameV] at h; rfl
  | .fn f c, b, h => by cases b <;> simp [sameV] at h; rw [h.1, sameL_eq _ _ h.2]
  | .nilf, b, h => by cases b <;> simp [sameV] at h; rfl
  | .nili, b, h => by cases b <;> simp [sameV] at h; rfl
  | .agg x, b, h => by cases b <;> simp [sameV] at h; rw [sameL_eq _ _ h]
  | .tup x, b, h => by cases b <;> simp [sameV] at h; rw [sameL_eq _ _ h]
  | .top q, b, h => same_top q b h
theorem sameL_eq : ∀ (a b : List AV), sameL a b = true → a = b
  | [], b, h => by cases b <;> simp [sameL] at h; rfl
  | x :: r, b, h => by
    cases b with
    | nil => simp [sameL] at h
    | cons y z => simp [sameL] at h; rw [sameV_eq _ _ h.1, sameL_eq _ _ h.2]
end

theorem recheck_cons (ops : List Oper) (fr : T AV) (hs : List H) (p : Nat × Nat) (fl : List (Nat × Nat)) : recheck E ops fr hs (p :: fl) = match nth hs p.1, nth ops p.2 with
    | some h, some o => match wantedA ops fr o with
      | some false => recheck E ops fr hs fl
      | some true => match readA E fr h o.op, o.dst with
        | some v, some d => match fr.get d with
          | some u => match sameV v u with
            | true => recheck E ops fr hs fl
            | false => false
          | none => false
        | _, _ => false
      | none => false
    | _, _ => false := rfl

theorem recheck_spec {ops : List Oper} {fr : T AV} {hs : List H} : ∀ {fl : List (Nat × Nat)}, recheck E ops fr hs fl = true → ∀ p ∈ fl, ∀ h o, hs[p.1]? = some h → ops[p.2]? = some o → wantedA ops fr o = some true →
    ∃ v d, readA E fr h o.op = some v ∧ o.dst = some d ∧ fr.get d = some v
  | [], _, p, hp, _, _, _, _, _ => by simp at hp
  | q :: fl, hc, p, hp, h, o, h1, h2, h3 => by
    rw [recheck_cons] at hc
    rcases List.mem_cons.1 hp with rfl | hm
    · rw [nth_eq, nth_eq, h1, h2] at hc
      simp only [h3] at hc
      split at hc
      · rename_i v d hv hd
        split at hc
        · rename_i u hu
          split at hc
          · rename_i hsame
            have := sameV_eq _ _ hsame
            subst this
            exact ⟨_, d, hv, hd, hu⟩
          · cases hc
        · cases hc
      · cases hc
    · refine recheck_spec (fl := fl) ?_ p hm h o h1 h2 h3
      split at hc
      · split at hc
        · exact hc
        · split at hc
          · split at hc
            · split at hc
              · exact hc
              · cases hc
            · cases hc
          · cases hc
        · cases hc
      · cases hc

/-! counting effects -/
theorem effsTo_succ (ops : List Oper) (k : Nat) : effsTo ops (k + 1) = effsTo ops k + (if (ops[k]?).any isEff then 1 else 0) := by
  unfold effsTo
  cases hk : ops[k]? with
  | none =>
    have : ops.length ≤ k := by rw [List.getElem?_eq_none_iff] at hk; exact hk
    rw [List.take_of_length_le (by omega), List.take_of_length_le this]; simp
  | some o =>
    obtain ⟨hlt, ho⟩ := List.getElem?_eq_some_iff.1 hk
    rw [List.take_succ_eq_append_getElem hlt, List.filter_append, List.length_append, ho]
    simp only [Option.any_some, List.filter_cons, List.filter_nil]
    split <;> simp
theorem count_range (p : Nat → Bool) (k : Nat) : ∀ n, ((List.range n).filter fun j => p j && decide (j < k)).length = ((List.range (min n k)).filter p).length
  | 0 => by simp
  | n + 1 => by
    rw [List.range_succ, List.filter_append, List.length_append, count_range p k n]
    by_cases h : n < k
    · rw [Nat.min_eq_left (by omega), Nat.min_eq_left (by omega), List.range_succ, List.filter_append, List.length_append]
      simp [List.filter_cons, h]
    · rw [Nat.min_eq_right (by omega), Nat.min_eq_right (by omega)]
      simp [h]
theorem effsTo_count (ops : List Oper) : ∀ k, effsTo ops k = ((List.range k).filter fun j => (ops[j]?).any isEff).length
  | 0 => by simp [effsTo]
  | k + 1 => by
    rw [effsTo_succ, effsTo_count ops k, List.range_succ, List.filter_append, List.length_append]
    simp only [List.filter_cons, List.filter_nil]
    split <;> simp
theorem filter_le (p q : Nat → Bool) (h : ∀ j, p j = true → q j = true) : ∀ l : List Nat, (l.filter p).length ≤ (l.filter q).length
  | [] => by simp
  | x :: l => by
    have := filter_le p q h l
    simp only [List.filter_cons]
    cases hp : p x
    · cases q x <;> simp <;> omega
    · rw [h x hp]; simp; omega

theorem floats_mem {ops : List Oper} {bs : List Nat} {i k : Nat} {o : Oper} (ho : ops[i]? = some o) (hr : isRead o = true)
    (hlo : ((List.range ops.length).filter fun j => (ops[j]?).any isEff && Nat.testBit (bs.getD i 0) j).length ≤ k)
    (hhi : k ≤ ((List.range ops.length).filter fun j => (ops[j]?).any isEff && !Nat.testBit (bs.getD j 0) i).length) (hne : k ≠ effsTo ops i) : (k, i) ∈ floats ops bs := by
  unfold floats
  rw [List.mem_flatMap]
  refine ⟨i, by rw [List.mem_range]; exact (List.getElem?_eq_some_iff.1 ho).1, ?_⟩
  simp only [ho, hr, if_true]
  rw [List.mem_filter, List.mem_map]
  refine ⟨⟨k - ((List.range ops.length).filter fun j => (ops[j]?).any isEff && Nat.testBit (bs.getD i 0) j).length, by rw [List.mem_range]; omega, by simp only [Prod.mk.injEq, and_true]; omega⟩, ?_⟩
  simp only [Bool.not_eq_true']
  cases hq : Nat.beq k (effsTo ops i)
  · rfl
  · exact absurd (Nat.eq_of_beq_eq_true hq) hne
end
end Go.Abs

/-
  A region that draws its order (3): in whatever order it runs, it does what it does in the text's.
-/
namespace Go.Abs
open Go

section
variable {P : Program} {E : Env}

/-- an allocation of the region's that is carried out -/
def Al (E : Env) (ops : Array Oper) (F : Nat → T AV) (j : Nat) (o : Oper) (x : Blk) (mk : Nat → AV) : Prop :=
  ops[j]? = some o ∧ cls o.op = .alloc ∧ wantedA ops.toList (F j) o = some true ∧ allocA E (F j) o.op = some (x, mk)

theorem alloc_links {fr : T AV} {op : Op} {x : Blk} {mk : Nat → AV} (h : allocA E fr op = some (x, mk)) : x.prev = none ∧ x.next = none := by
  cases op <;> simp only [allocA] at h <;> try (cases h; done)
  all_goals (repeat' split at h)
  all_goals first
    | (cases h; exact ⟨rfl, rfl⟩)
    | cases h

structure Inv (E : Env) (ops : Array Oper) (F : Nat → T AV) (HP : Nat → H) (V : Nat → AV) (h0 : H) (ρ0 : Pl) (w0 : World) (N : Nat) (ds : List Deferred) (listed : Array Bool) (pk : Nat) (ρ : Pl) (a : Act) (w : World) : Prop where
  lsz : listed.size = ops.size
  dc : ∀ j, listed.getD j false = true → ∀ o, ops[j]? = some o → ∀ e ∈ o.after.toList, Region.binds .any e = true → listed.getD e.on false = true
  pkle : pk ≤ ops.size
  pk1 : ∀ j o, ops[j]? = some o → isEff o = true → (j < pk ↔ listed.getD j false = true)
  pk2 : pk = ops.size ∨ ∃ o, ops[pk]? = some o ∧ isEff o = true
  post : Post ρ0 h0 w0 ρ (HP pk) w
  frame : ∀ t v, (F ops.size).get t = some v → (∀ j o, ops[j]? = some o → o.dst = some t → listed.getD j false = true) → ∃ u, a.tmps[t]? = some u ∧ VR ρ v u
  frame0 : ∀ t v, (F 0).get t = some v → (∀ j o, ops[j]? = some o → o.dst = some t → listed.getD j false = false) → ∃ u, a.tmps[t]? = some u ∧ VR ρ v u
  unb : ∀ j o x mk, Al E ops F j o x mk → listed.getD j false = false → ρ (h0.n + j) = none ∧ (j < pk → (HP pk).get (h0.n + j) = some x)
  pend : ∀ j o x mk, Al E ops F j o x mk → listed.getD j false = true → pk ≤ j → ∃ l, ρ (h0.n + j) = some l ∧ BlkOk ρ w l x ∧ (∀ b m, b ≠ h0.n + j → ρ b = some m → m.blk ≠ l.blk) ∧ w0.heap.size ≤ l.blk ∧ l.blk < w.heap.size
  abs : ∀ j, j < ops.size → pk ≤ j → (HP pk).get (h0.n + j) = none
  room : h0.n + ops.size ≤ (HP pk).n
  seg : ∃ s, s ≤ pk ∧ (s = 0 ∨ ∃ o, ops[s - 1]? = some o ∧ isEff o = true) ∧ ∀ m, s ≤ m → m ≤ pk → Sub (HP m) (HP pk)
  size : a.tmps.size = N
  defers : a.defers = ds

variable {call : CallF} {ops : Array Oper} {F : Nat → T AV} {HP : Nat → H} {V : Nat → AV} {h0 : H} {ρ0 : Pl} {w0 : World} {N : Nat} {ds : List Deferred}

/-- from one place of the text to a later one, no effect between -/
theorem advance (hst : ∀ j o, ops[j]? = some o → StepOk E call ops.toList h0.n F HP V j j o) {ρ : Pl} {w : World} :
    ∀ (d i : Nat), i + d ≤ ops.size → (∀ j o, i ≤ j → j < i + d → ops[j]? = some o → isEff o = false) → Post ρ0 h0 w0 ρ (HP i) w → h0.n + ops.size ≤ (HP i).n →
      (∀ j, j < ops.size → i ≤ j → (HP i).get (h0.n + j) = none) →
      (∀ j o x mk, i ≤ j → j < i + d → Al E ops F j o x mk → ρ (h0.n + j) = none ∨ ∃ l, ρ (h0.n + j) = some l ∧ BlkOk ρ w l x ∧ (∀ b m, b ≠ h0.n + j → ρ b = some m → m.blk ≠ l.blk) ∧ w0.heap.size ≤ l.blk) →
      Post ρ0 h0 w0 ρ (HP (i + d)) w ∧ h0.n + ops.size ≤ (HP (i + d)).n ∧ (∀ j, j < ops.size → i + d ≤ j → (HP (i + d)).get (h0.n + j) = none) ∧
        (∀ m, i ≤ m → m ≤ i + d → Sub (HP m) (HP (i + d))) ∧ (∀ j o x mk, i ≤ j → j < i + d → Al E ops F j o x mk → (HP (i + d)).get (h0.n + j) = some x) := by
  intro d
  induction d with
  | zero => intro i _ _ hp hn ha _; exact ⟨hp, hn, ha, fun m h1 h2 => by (obtain rfl : m = i := by omega); exact fun _ _ h => h, fun j o x mk h1 h2 => by omega⟩
  | succ d ih =>
    intro i hle hne hp hn ha hal
    obtain ⟨p1, p2, p3, p4, p5⟩ := ih i (by omega) (fun j o h1 h2 h3 => hne j o h1 (by omega) h3) hp hn ha (fun j o x mk h1 h2 h3 => hal j o x mk h1 (by omega) h3)
    have hlt : i + d < ops.size := by omega
    have ho : ops[i + d]? = some ops[i + d] := by simp [hlt]
    generalize ops[i + d] = o at ho
    have hs := hst _ _ ho
    have hse := hne _ _ (by omega) (by omega) ho
    have same : HP (i + d + 1) = HP (i + d) → (∀ x mk, ¬ Al E ops F (i + d) o x mk) → _ := fun e hno =>
      show Post ρ0 h0 w0 ρ (HP (i + d + 1)) w ∧ h0.n + ops.size ≤ (HP (i + d + 1)).n ∧ (∀ j, j < ops.size → i + d + 1 ≤ j → (HP (i + d + 1)).get (h0.n + j) = none) ∧
        (∀ m, i ≤ m → m ≤ i + d + 1 → Sub (HP m) (HP (i + d + 1))) ∧ (∀ j o x mk, i ≤ j → j < i + d + 1 → Al E ops F j o x mk → (HP (i + d + 1)).get (h0.n + j) = some x) from by
        rw [e]
        refine ⟨p1, p2, fun j h1 h2 => p3 j h1 (by omega), fun m h1 h2 => ?_, fun j o' x mk h1 h2 h3 => ?_⟩
        · rcases Nat.lt_or_ge m (i + d + 1) with h | h
          · exact p4 m h1 (by omega)
          · obtain rfl : m = i + d + 1 := by omega
            rw [e]; exact fun _ _ h => h
        rcases Nat.lt_or_ge j (i + d) with h | h
        · exact p5 j o' x mk h1 h h3
        · obtain rfl : j = i + d := by omega
          have : o' = o := by have := h3.1; rw [ho] at this; cases this; rfl
          subst this
          exact absurd h3 (hno x mk)
    rw [show i + (d + 1) = i + d + 1 from by omega]
    rcases hs.step with ⟨hw, _, e⟩ | ⟨hw, hstep⟩
    · exact same e fun x mk hh => by have := hh.2.2.1; rw [hw] at this; cases this
    · cases hc : cls o.op <;> rw [hc] at hstep
      · exact same hstep.2 fun x mk hh => by have := hh.2.1; rw [hc] at this; cases this
      · obtain ⟨x, mk, hx, hv, e⟩ := hstep
        have hAl : Al E ops F (i + d) o x mk := ⟨ho, hc, hw, hx⟩
        obtain ⟨hxp, hxn⟩ := alloc_links hx
        rw [e]
        have hg : ∀ c, c ≠ h0.n + (i + d) → ((HP (i + d)).put (h0.n + (i + d)) x).get c = (HP (i + d)).get c := fun c hc => by rw [H.get_put, if_neg hc]
        have habs := p3 (i + d) hlt (Nat.le_refl _)
        refine ⟨p1.put_absent (by omega) (by omega) habs hxp hxn (hal _ _ _ _ (by omega) (by omega) hAl), p2, fun j h1 h2 => ?_, fun m h1 h2 => ?_, fun j o' x' mk' h1 h2 h3 => ?_⟩
        · rw [hg _ (by omega)]; exact p3 j h1 (by omega)
        · rcases Nat.lt_or_ge m (i + d + 1) with h | h
          · intro b y hb
            have h5 := p4 m h1 (by omega) b y hb
            rw [hg _ (fun e => by rw [e, habs] at h5; cases h5)]; exact h5
          · obtain rfl : m = i + d + 1 := by omega
            rw [e]; exact fun _ _ h => h
        · rcases Nat.lt_or_ge j (i + d) with h | h
          · rw [hg _ (by omega)]; exact p5 j o' x' mk' h1 h h3
          · obtain rfl : j = i + d := by omega
            have : o' = o := by have := h3.1; rw [ho] at this; cases this; rfl
            subst this
            have e2 := h3.2.2.2
            rw [hx] at e2; cases e2
            rw [H.get_put, if_pos rfl]
      · exact same hstep.2 fun x mk hh => by have := hh.2.1; rw [hc] at this; cases this
      · simp [isEff, hc] at hse

/-- the values of the slots, at the end and at their place -/
theorem frame_at (hst : ∀ j o, ops[j]? = some o → StepOk E call ops.toList h0.n F HP V j j o) (hreg : ∀ j o, ops[j]? = some o → RegOk ops.toList j o) {t : Tmp} {i : Nat} : ∀ (d : Nat), i + d ≤ ops.size →
    (∀ j o, i ≤ j → j < i + d → ops[j]? = some o → o.dst ≠ some t) → (F (i + d)).get t = (F i).get t
  | 0, _, _ => rfl
  | d + 1, hle, hno => by
    have hlt : i + d < ops.size := by omega
    have ho : ops[i + d]? = some ops[i + d] := by simp [hlt]
    have hs := hst _ _ ho
    have := hno _ _ (by omega) (by omega) ho
    rw [show i + (d + 1) = i + d + 1 from by omega, hs.next]
    rw [← frame_at hst hreg d (by omega) fun j o h1 h2 h3 => hno j o h1 (by omega) h3]
    cases hd : ops[i + d].dst with
    | none => rfl
    | some q =>
      simp only [putD, T.get_put]
      rw [if_neg]
      intro e; subst e; exact this hd

theorem frame_dst (hst : ∀ j o, ops[j]? = some o → StepOk E call ops.toList h0.n F HP V j j o) (hreg : ∀ j o, ops[j]? = some o → RegOk ops.toList j o) {j : Nat} {o : Oper} (ho : ops[j]? = some o) {t : Tmp} (hd : o.dst = some t) :
    ∀ i, j < i → i ≤ ops.size → (F i).get t = some (V j) := by
  intro i hi hle
  obtain ⟨d, rfl⟩ : ∃ d, i = j + 1 + d := ⟨i - (j + 1), by omega⟩
  rw [frame_at hst hreg d hle fun k o' h1 h2 h3 he => ?_]
  · have hs := hst _ _ ho
    rw [hs.next, hd]
    simp [putD, T.get_put]
  · exact (hreg k o' h3).dst t he j o (by omega) (by simpa using ho) hd
end
end Go.Abs

/-
  A region that draws its order (4): one operation, at any place.
-/
namespace Go.Abs
open Go

section
variable {P : Program} {E : Env} {call : CallF} {ops : Array Oper} {F : Nat → T AV} {HP : Nat → H} {V : Nat → AV} {h0 : H} {ρ0 : Pl} {w0 : World} {N : Nat} {ds : List Deferred}

theorem next_eff (ops : Array Oper) : ∀ (m i : Nat), i + m = ops.size → ∃ d, i + d ≤ ops.size ∧ (∀ j o, i ≤ j → j < i + d → ops[j]? = some o → isEff o = false) ∧ (i + d = ops.size ∨ ∃ o, ops[i + d]? = some o ∧ isEff o = true)
  | 0, i, h => ⟨0, by omega, fun j o h1 h2 => by omega, .inl (by omega)⟩
  | m + 1, i, h => by
    have hlt : i < ops.size := by omega
    have ho : ops[i]? = some ops[i] := by simp [hlt]
    cases he : isEff ops[i] with
    | true => exact ⟨0, by omega, fun j o h1 h2 => by omega, .inr ⟨_, ho, he⟩⟩
    | false =>
      obtain ⟨d, h1, h2, h3⟩ := next_eff ops m (i + 1) (by omega)
      refine ⟨d + 1, by omega, fun j o q1 q2 q3 => ?_, by rw [show i + (d + 1) = i + 1 + d from by omega]; exact h3⟩
      rcases Nat.eq_or_lt_of_le q1 with e | e
      · subst e; rw [ho] at q3; cases q3; exact he
      · exact h2 j o (by omega) (by omega) q3

theorem effsTo_mono (ops : List Oper) (i : Nat) : ∀ d, effsTo ops i ≤ effsTo ops (i + d)
  | 0 => Nat.le_refl _
  | d + 1 => by
    rw [show i + (d + 1) = i + d + 1 from by omega, effsTo_succ]
    exact Nat.le_trans (effsTo_mono ops i d) (Nat.le_add_right _ _)
theorem effsTo_lt {ops : List Oper} {i j k : Nat} {o : Oper} (h1 : i ≤ j) (h2 : j < k) (ho : ops[j]? = some o) (he : isEff o = true) : effsTo ops i < effsTo ops k := by
  obtain ⟨d, rfl⟩ : ∃ d, j = i + d := ⟨j - i, by omega⟩
  obtain ⟨d', rfl⟩ : ∃ d', k = i + d + 1 + d' := ⟨k - (i + d + 1), by omega⟩
  have a := effsTo_mono ops i d
  have b := effsTo_mono ops (i + d + 1) d'
  have c := effsTo_succ ops (i + d)
  rw [ho] at c
  simp only [Option.any_some, he, if_true] at c
  omega

section step
variable {listed : Array Bool} {pk : Nat} {ρ : Pl} {a : Act} {w : World} {i : Nat} {o : Oper}

/-- the slots at which a ready operation looks -/
theorem Inv.look (inv : Inv E ops F HP V h0 ρ0 w0 N ds listed pk ρ a w) (hst : ∀ j o, ops[j]? = some o → StepOk E call ops.toList h0.n F HP V j j o) (hreg : ∀ j o, ops[j]? = some o → RegOk ops.toList j o)
    (ho : ops[i]? = some o) (hnl : listed.getD i false = false) (hready : ∀ e ∈ o.after.toList, Region.binds .any e = true → listed.getD e.on false = true) {t : Tmp} (ht : t ∈ looks ops.toList o) :
    (∀ v, (F i).get t = some v → ∃ u, a.tmps[t]? = some u ∧ VR ρ v u) ∧ (isRead o = true → (F i).get t = (F ops.size).get t) := by
  have hlt : i < ops.size := (Array.getElem?_eq_some_iff.1 ho).1
  have hdc : ∀ j, listed.getD j false = true → ∀ o', ops.toList[j]? = some o' → ∀ e ∈ o'.after.toList, Region.binds .any e = true → listed.getD e.on false = true := fun j hj o' ho' e he hb => inv.dc j hj o' (by simpa using ho') e he hb
  have hbits := bef_listed (ops := ops.toList) (L := fun j => listed.getD j false = true) hdc i o (by simpa using ho) hready
  have hlk := (hreg i o ho).looks t ht
  by_cases hex : ∃ (j : Nat) (o' : Oper), ops[j]? = some o' ∧ o'.dst = some t
  · obtain ⟨j, o', ho', hd⟩ := hex
    rcases hlk j o' (by simpa using ho') hd with ⟨hji, hbit⟩ | ⟨hnr, hij, hbit⟩
    · have e : (F i).get t = (F ops.size).get t := by rw [frame_dst hst hreg ho' hd i hji (by omega), frame_dst hst hreg ho' hd ops.size (by omega) (Nat.le_refl _)]
      refine ⟨fun v hv => inv.frame t v (e ▸ hv) fun j' o'' ho'' hd' => ?_, fun _ => e⟩
      have hjj : j' = j := by
        rcases Nat.lt_trichotomy j' j with h | h | h
        · exact absurd hd' ((hreg j o' ho').dst t hd j' o'' h (by simpa using ho''))
        · exact h
        · exact absurd hd ((hreg j' o'' ho'').dst t hd' j o' h (by simpa using ho'))
      subst hjj; exact hbits _ hbit
    · refine ⟨fun v hv => ?_, fun h => by rw [hnr] at h; cases h⟩
      have e : (F i).get t = (F 0).get t := by
        have := frame_at hst hreg (t := t) (i := 0) i (by omega) fun j' o'' _ h2 h3 hd' => ?_
        · rwa [Nat.zero_add] at this
        · exact absurd hd' ((hreg j o' ho').dst t hd j' o'' (by omega) (by simpa using h3))
      refine inv.frame0 t v (e ▸ hv) fun j' o'' ho'' hd' => ?_
      have hjj : j' = j := by
        rcases Nat.lt_trichotomy j' j with h | h | h
        · exact absurd hd' ((hreg j o' ho').dst t hd j' o'' h (by simpa using ho''))
        · exact h
        · exact absurd hd ((hreg j' o'' ho'').dst t hd' j o' h (by simpa using ho'))
      subst hjj
      cases hl : listed.getD j' false with
      | false => rfl
      | true =>
        have := bef_listed (ops := ops.toList) (L := fun j => listed.getD j false = true) hdc j' o' (by simpa using ho') (fun e he hb => hdc j' hl o' (by simpa using ho') e he hb) i hbit
        rw [hnl] at this; cases this
  · have e : (F i).get t = (F ops.size).get t := by
      have := frame_at hst hreg (t := t) (i := i) (ops.size - i) (by omega) fun j o' _ _ h3 hd => hex ⟨j, o', h3, hd⟩
      rw [show i + (ops.size - i) = ops.size from by omega] at this
      exact this.symm
    exact ⟨fun v hv => inv.frame t v (e ▸ hv) fun j o' ho' hd => absurd ⟨j, o', ho', hd⟩ hex, fun _ => e⟩

theorem mem_looks {ops : List Oper} {o : Oper} {t : Tmp} (h : Operand.tmp t ∈ o.op.operands) : t ∈ looks ops o := by
  unfold looks
  rw [List.mem_append]
  left
  rw [List.mem_filterMap]
  exact ⟨.tmp t, by simpa using h, rfl⟩

theorem Inv.knows (inv : Inv E ops F HP V h0 ρ0 w0 N ds listed pk ρ a w) (hst : ∀ j o, ops[j]? = some o → StepOk E call ops.toList h0.n F HP V j j o) (hreg : ∀ j o, ops[j]? = some o → RegOk ops.toList j o)
    (ho : ops[i]? = some o) (hnl : listed.getD i false = false) (hready : ∀ e ∈ o.after.toList, Region.binds .any e = true → listed.getD e.on false = true) :
    Knows ρ (F i) a.eval o.op.operands ∧ (isRead o = true → Knows ρ (F ops.size) a.eval o.op.operands) := by
  have key : ∀ x ∈ o.op.operands, ∀ v, opnd (F i) x = some v → VR ρ v (a.eval x) := fun x hx v hv => by
    cases x with
    | tmp t =>
      obtain ⟨h2, _⟩ := inv.look hst hreg ho hnl hready (mem_looks (ops := ops.toList) hx)
      obtain ⟨u, h3, h4⟩ := h2 v hv
      have : a.eval (.tmp t) = u := by simp [Act.eval, h3]
      rw [this]; exact h4
    | const c => exact absV_VR ρ hv
    | global g => cases hv
    | func f => cases hv; exact ⟨[], rfl, rfl⟩
  refine ⟨key, fun hrd x hx v hv => key x hx v ?_⟩
  cases x with
  | tmp t =>
    obtain ⟨_, h1⟩ := inv.look hst hreg ho hnl hready (mem_looks (ops := ops.toList) hx)
    have hv' : (F ops.size).get t = some v := hv
    rw [← h1 hrd] at hv'; exact hv'
  | const c => exact hv
  | global g => exact hv
  | func f => exact hv

theorem Inv.wanted (inv : Inv E ops F HP V h0 ρ0 w0 N ds listed pk ρ a w) (hst : ∀ j o, ops[j]? = some o → StepOk E call ops.toList h0.n F HP V j j o) (hreg : ∀ j o, ops[j]? = some o → RegOk ops.toList j o)
    (ho : ops[i]? = some o) (hnl : listed.getD i false = false) (hready : ∀ e ∈ o.after.toList, Region.binds .any e = true → listed.getD e.on false = true) {b : Bool} (hw : wantedA ops.toList (F i) o = some b) :
    Region.wanted o (yielded ops a.tmps) = b ∧ (isRead o = true → wantedA ops.toList (F ops.size) o = some b) := by
  have hmem : ∀ j want g d, o.guard = some (j, want) → ops[j]? = some g → g.dst = some d → d ∈ looks ops.toList o := fun j want g d h1 h2 h3 => by
    unfold looks
    rw [List.mem_append]
    right
    rw [h1]
    simp [h2, h3]
  refine ⟨wanted_sound (ρ := ρ) hw fun j want h1 g d x h2 h3 h4 => ?_, fun hrd => ?_⟩
  · obtain ⟨h6, _⟩ := inv.look hst hreg ho hnl hready (hmem j want g d h1 h2 h3)
    exact h6 _ h4
  · unfold wantedA at hw ⊢
    cases hg : o.guard with
    | none => rw [hg] at hw; exact hw
    | some jw =>
      obtain ⟨j, want⟩ := jw
      rw [hg] at hw
      simp only [nth_eq] at hw ⊢
      cases hj : ops.toList[j]? with
      | none => rw [hj] at hw; cases hw
      | some g =>
        rw [hj] at hw
        simp only at hw ⊢
        cases hd : g.dst with
        | none => rw [hd] at hw; cases hw
        | some d =>
          rw [hd] at hw
          simp only at hw ⊢
          obtain ⟨_, h5⟩ := inv.look hst hreg ho hnl hready (hmem j want g d hg (by simpa using hj) hd)
          rw [← h5 hrd]; exact hw

/-- a read tells the same wherever it stands -/
theorem Inv.read (inv : Inv E ops F HP V h0 ρ0 w0 N ds listed pk ρ a w) (hst : ∀ j o, ops[j]? = some o → StepOk E call ops.toList h0.n F HP V j j o) (hreg : ∀ j o, ops[j]? = some o → RegOk ops.toList j o)
    {hs : List H} (hhs : ∀ k, (k = ops.size ∨ ∃ o, ops[k]? = some o ∧ isEff o = true) → hs[effsTo ops.toList k]? = some (HP k)) (hre : recheck E ops.toList (F ops.size) hs (floats ops.toList (befs ops.toList [])) = true)
    (ho : ops[i]? = some o) (hnl : listed.getD i false = false) (hready : ∀ e ∈ o.after.toList, Region.binds .any e = true → listed.getD e.on false = true) (hc : cls o.op = .read)
    (hw : wantedA ops.toList (F i) o = some true) (hv : readA E (F i) (HP i) o.op = some (V i)) : readA E (F i) (HP pk) o.op = some (V i) ∨ readA E (F ops.size) (HP pk) o.op = some (V i) := by
  have hlt : i < ops.size := (Array.getElem?_eq_some_iff.1 ho).1
  by_cases hk : effsTo ops.toList pk = effsTo ops.toList i
  · left
    have hle : i ≤ pk := by
      rcases Nat.lt_or_ge pk i with h | h
      · rcases inv.pk2 with e | ⟨o', ho', he'⟩
        · omega
        · have := effsTo_lt (ops := ops.toList) (Nat.le_refl pk) h (by simpa using ho') he'
          omega
      · exact h
    obtain ⟨s, h1, h2, h3⟩ := inv.seg
    have hsi : s ≤ i := by
      rcases Nat.lt_or_ge i s with h | h
      · rcases h2 with e | ⟨o', ho', he'⟩
        · omega
        · have := effsTo_lt (ops := ops.toList) (i := i) (j := s - 1) (k := pk) (by omega) (by omega) (by simpa using ho') he'
          omega
      · exact h
    exact read_mono (h3 i hsi hle) hv
  · right
    have hbits := bef_listed (ops := ops.toList) (L := fun j => listed.getD j false = true) (fun j hj o' ho' e he hb => inv.dc j hj o' (by simpa using ho') e he hb) i o (by simpa using ho) hready
    have hcount : effsTo ops.toList pk = ((List.range ops.size).filter fun j => (ops.toList[j]?).any isEff && decide (j < pk)).length := by
      rw [effsTo_count, count_range, Nat.min_eq_right inv.pkle]
    have hmem := floats_mem (bs := befs ops.toList []) (k := effsTo ops.toList pk) (show ops.toList[i]? = some o by simpa using ho) (by simp [isRead, hc])
      (by
        rw [hcount, Array.length_toList]
        refine filter_le _ _ (fun j hj => ?_) _
        simp only [Bool.and_eq_true, decide_eq_true_eq] at hj ⊢
        refine ⟨hj.1, ?_⟩
        cases hoj : ops.toList[j]? with
        | none => rw [hoj] at hj; simp at hj
        | some oj =>
          rw [hoj] at hj
          exact (inv.pk1 j oj (by simpa using hoj) (by simpa using hj.1)).2 (hbits j hj.2))
      (by
        rw [hcount, Array.length_toList]
        refine filter_le _ _ (fun j hj => ?_) _
        simp only [Bool.and_eq_true, decide_eq_true_eq, Bool.not_eq_true'] at hj ⊢
        refine ⟨hj.1, ?_⟩
        cases hoj : ops.toList[j]? with
        | none => rw [hoj] at hj; simp at hj
        | some oj =>
          rw [hoj] at hj
          have hLj := (inv.pk1 j oj (by simpa using hoj) (by simpa using hj.1)).1 hj.2
          cases hb : Nat.testBit ((befs ops.toList []).getD j 0) i with
          | false => rfl
          | true =>
            exfalso
            have := bef_listed (ops := ops.toList) (L := fun j => listed.getD j false = true) (fun j hj o' ho' e he hb => inv.dc j hj o' (by simpa using ho') e he hb) j oj hoj
              (fun e he hb' => inv.dc j hLj oj (by simpa using hoj) e he hb') i hb
            rw [hnl] at this; cases this)
      hk
    obtain ⟨v, d, h1, h2, h3⟩ := recheck_spec hre _ hmem (HP pk) o (hhs pk inv.pk2) (by simpa using ho) ((inv.wanted hst hreg ho hnl hready hw).2 (by simp [isRead, hc]))
    have := frame_dst hst hreg ho h2 ops.size hlt (Nat.le_refl _)
    rw [h3] at this
    cases this
    exact h1
end step
end
end Go.Abs

/-
  A region that draws its order (5): the whole.
-/
namespace Go.Abs
open Go

section
variable {P : Program} {E : Env} {call : CallF} {ops : Array Oper} {F : Nat → T AV} {HP : Nat → H} {V : Nat → AV} {h0 : H} {ρ0 : Pl} {w0 : World} {N : Nat} {ds : List Deferred}

section step
variable {listed : Array Bool} {pk : Nat} {ρ : Pl} {a : Act} {w : World} {i : Nat} {o : Oper}

theorem getD_set (listed : Array Bool) (i j : Nat) (hi : i < listed.size) : (listed.setIfInBounds i true).getD j false = if j = i then true else listed.getD j false := by
  by_cases h : j = i
  · subst h; simp [hi]
  · rw [if_neg h, getD_set_ne false (fun e => h e.symm)]

theorem dc_set (inv : Inv E ops F HP V h0 ρ0 w0 N ds listed pk ρ a w) (ho : ops[i]? = some o) (hready : ∀ e ∈ o.after.toList, Region.binds .any e = true → listed.getD e.on false = true) :
    ∀ j, (listed.setIfInBounds i true).getD j false = true → ∀ o', ops[j]? = some o' → ∀ e ∈ o'.after.toList, Region.binds .any e = true → (listed.setIfInBounds i true).getD e.on false = true := by
  intro j hj o' ho' e he hb
  refine getD_set_true ?_
  by_cases hji : j = i
  · subst hji; rw [ho] at ho'; cases ho'; exact hready e he hb
  · rw [getD_set_ne false (fun e => hji e.symm)] at hj
    exact inv.dc j hj o' ho' e he hb

theorem frame_set (inv : Inv E ops F HP V h0 ρ0 w0 N ds listed pk ρ a w) (hst : ∀ j o, ops[j]? = some o → StepOk E call ops.toList h0.n F HP V j j o) (hreg : ∀ j o, ops[j]? = some o → RegOk ops.toList j o)
    (hN : opsOk N ops.toList = true) (ho : ops[i]? = some o) {ρ' : Pl} (he : Ext ρ ρ') {u : Value} (hu : VR ρ' (V i) u) :
    ∀ t v, (F ops.size).get t = some v → (∀ j o, ops[j]? = some o → o.dst = some t → (listed.setIfInBounds i true).getD j false = true) → ∃ u', (a.put o.dst u).tmps[t]? = some u' ∧ VR ρ' v u' := by
  intro t v hv hl
  have hlt : i < ops.size := (Array.getElem?_eq_some_iff.1 ho).1
  by_cases hd : o.dst = some t
  · have := frame_dst hst hreg ho hd ops.size hlt (Nat.le_refl _)
    rw [hv] at this; cases this
    have hts : t < a.tmps.size := by
      rw [inv.size]
      exact opsOk_mem hN o (by rw [List.mem_iff_getElem?]; exact ⟨i, by simpa using ho⟩) t hd
    exact ⟨u, by simp [Act.put, hd, hts], hu⟩
  · obtain ⟨u', h1, h2⟩ := inv.frame t v hv fun j o' ho' hd' => by
      have := hl j o' ho' hd'
      by_cases hji : j = i
      · subst hji; rw [ho] at ho'; cases ho'; exact absurd hd' hd
      · rwa [getD_set_ne false (fun e => hji e.symm)] at this
    refine ⟨u', ?_, h2.mono he⟩
    rw [← h1]
    cases hdd : o.dst with
    | none => rfl
    | some q =>
      simp only [Act.put]
      exact Array.getElem?_setIfInBounds_ne (fun e => hd (by rw [hdd, e]))

theorem frame0_set (inv : Inv E ops F HP V h0 ρ0 w0 N ds listed pk ρ a w) (ho : ops[i]? = some o) {ρ' : Pl} (he : Ext ρ ρ') {u : Value} :
    ∀ t v, (F 0).get t = some v → (∀ j o, ops[j]? = some o → o.dst = some t → (listed.setIfInBounds i true).getD j false = false) → ∃ u', (a.put o.dst u).tmps[t]? = some u' ∧ VR ρ' v u' := by
  intro t v hv hl
  have hil : i < listed.size := by rw [inv.lsz]; exact (Array.getElem?_eq_some_iff.1 ho).1
  have hd : o.dst ≠ some t := fun hd => by have := hl i o ho hd; rw [getD_set _ _ _ hil, if_pos rfl] at this; cases this
  obtain ⟨u', h1, h2⟩ := inv.frame0 t v hv fun j o' ho' hd' => by
    have := hl j o' ho' hd'
    rw [getD_set _ _ _ hil] at this
    split at this
    · cases this
    · exact this
  refine ⟨u', ?_, h2.mono he⟩
  rw [← h1]
  cases hdd : o.dst with
  | none => rfl
  | some q =>
    simp only [Act.put]
    exact Array.getElem?_setIfInBounds_ne (fun e => hd (by rw [hdd, e]))

/-- an operation that is no effect has run -/
theorem Inv.quiet (inv : Inv E ops F HP V h0 ρ0 w0 N ds listed pk ρ a w) (hst : ∀ j o, ops[j]? = some o → StepOk E call ops.toList h0.n F HP V j j o) (hreg : ∀ j o, ops[j]? = some o → RegOk ops.toList j o)
    (hN : opsOk N ops.toList = true) (ho : ops[i]? = some o) (hready : ∀ e ∈ o.after.toList, Region.binds .any e = true → listed.getD e.on false = true) (hne : isEff o = false)
    {ρ' : Pl} {w' : World} {u : Value} (hu : VR ρ' (V i) u) (he : Ext ρ ρ') (hp : Post ρ0 h0 w0 ρ' (HP pk) w')
    (h1 : ∀ j o x mk, j ≠ i → Al E ops F j o x mk → listed.getD j false = false → ρ' (h0.n + j) = none)
    (h2 : ∀ j o x mk, j ≠ i → Al E ops F j o x mk → listed.getD j false = true → pk ≤ j → ∃ l, ρ' (h0.n + j) = some l ∧ BlkOk ρ' w' l x ∧ (∀ b m, b ≠ h0.n + j → ρ' b = some m → m.blk ≠ l.blk) ∧ w0.heap.size ≤ l.blk ∧ l.blk < w'.heap.size)
    (h3 : ∀ x mk, Al E ops F i o x mk → pk ≤ i → ∃ l, ρ' (h0.n + i) = some l ∧ BlkOk ρ' w' l x ∧ (∀ b m, b ≠ h0.n + i → ρ' b = some m → m.blk ≠ l.blk) ∧ w0.heap.size ≤ l.blk ∧ l.blk < w'.heap.size) :
    Inv E ops F HP V h0 ρ0 w0 N ds (listed.setIfInBounds i true) pk ρ' (a.put o.dst u) w' := by
  have hlt : i < ops.size := (Array.getElem?_eq_some_iff.1 ho).1
  have hil : i < listed.size := by rw [inv.lsz]; exact hlt
  refine ⟨by simp [inv.lsz], dc_set inv ho hready, inv.pkle, fun j o' ho' he' => ?_, inv.pk2, hp, frame_set inv hst hreg hN ho he hu, frame0_set inv ho he, fun j o' x mk hal hl => ?_, fun j o' x mk hal hl hpk => ?_, inv.abs, inv.room, inv.seg, by rw [put_size]; exact inv.size, by rw [put_defers']; exact inv.defers⟩
  · rw [getD_set _ _ _ hil]
    by_cases hji : j = i
    · subst hji; rw [ho] at ho'; cases ho'; rw [hne] at he'; cases he'
    · rw [if_neg hji]; exact inv.pk1 j o' ho' he'
  · rw [getD_set _ _ _ hil] at hl
    by_cases hji : j = i
    · rw [if_pos hji] at hl; cases hl
    · rw [if_neg hji] at hl
      exact ⟨h1 j o' x mk hji hal hl, (inv.unb j o' x mk hal hl).2⟩
  · rw [getD_set _ _ _ hil] at hl
    by_cases hji : j = i
    · subst hji
      have : o' = o := by have := hal.1; rw [ho] at this; cases this; rfl
      subst this
      exact h3 x mk hal hpk
    · rw [if_neg hji] at hl
      exact h2 j o' x mk hji hal hl hpk

/-- an effect has run -/
theorem Inv.effect (inv : Inv E ops F HP V h0 ρ0 w0 N ds listed pk ρ a w) (hst : ∀ j o, ops[j]? = some o → StepOk E call ops.toList h0.n F HP V j j o) (hreg : ∀ j o, ops[j]? = some o → RegOk ops.toList j o)
    (hN : opsOk N ops.toList = true) (ho : ops[i]? = some o) (hready : ∀ e ∈ o.after.toList, Region.binds .any e = true → listed.getD e.on false = true) (he : isEff o = true) (hpi : pk = i)
    {ρ' : Pl} {w' : World} {u : Value} (hu : VR ρ' (V i) u) (hp : Post ρ (HP i) w ρ' (HP (i + 1)) w') :
    ∃ pk', Inv E ops F HP V h0 ρ0 w0 N ds (listed.setIfInBounds i true) pk' ρ' (a.put o.dst u) w' := by
  subst hpi
  have hlt : pk < ops.size := (Array.getElem?_eq_some_iff.1 ho).1
  have hil : pk < listed.size := by rw [inv.lsz]; exact hlt
  have hroom := inv.room
  have hmono := hp.mono
  obtain ⟨d, d1, d2, d3⟩ := next_eff ops (ops.size - (pk + 1)) (pk + 1) (by omega)
  have hnew : ∀ j, j < ops.size → ρ (h0.n + j) = none → ρ' (h0.n + j) = none := fun j hj h => by
    cases hq : ρ' (h0.n + j) with
    | none => rfl
    | some l => have := (hp.new _ _ h hq).1; omega
  have habs : ∀ j, j < ops.size → pk + 1 ≤ j → (HP (pk + 1)).get (h0.n + j) = none := fun j h1 h2 => hp.absent _ (by omega) (inv.abs j h1 (by omega))
  have hAlt : ∀ {j o x mk}, Al E ops F j o x mk → j < ops.size := fun hal => (Array.getElem?_eq_some_iff.1 hal.1).1
  -- what waits, waits on
  have hpend : ∀ j o x mk, Al E ops F j o x mk → listed.getD j false = true → pk ≤ j → ∃ l, ρ' (h0.n + j) = some l ∧ BlkOk ρ' w' l x ∧ (∀ b m, b ≠ h0.n + j → ρ' b = some m → m.blk ≠ l.blk) ∧ w0.heap.size ≤ l.blk ∧ l.blk < w'.heap.size := fun j o' x mk hal hl hpk => by
    obtain ⟨l, q1, q2, q3, q4, q5⟩ := inv.pend j o' x mk hal hl hpk
    have hno : ¬ Own ρ (HP pk) l.blk := fun ⟨b, m, y, m1, m2, m3, m4⟩ => by
      refine q3 b m (fun e => ?_) m1 m4
      rw [e, inv.abs j (hAlt hal) hpk] at m2; cases m2
    refine ⟨l, hp.ext _ _ q1, q2.keep hp.ext (hp.keep _ q5 hno), fun b m hb hm => ?_, q4, Nat.lt_of_lt_of_le q5 hp.size⟩
    cases hq : ρ b with
    | some m' =>
      have := hp.ext _ _ hq
      rw [hm] at this; cases this
      exact q3 b m hb hq
    | none =>
      rcases (hp.new _ _ hq hm).2 with e | e
      · omega
      · exact fun e' => hno (e' ▸ e)
  obtain ⟨p1, p2, p3, p4, p5⟩ := advance hst (ρ := ρ') (w := w') d (pk + 1) d1 d2 (inv.post.trans hp) (by omega) habs fun j o' x mk h1 h2 hal => by
    cases hl : listed.getD j false with
    | false => exact .inl (hnew j (hAlt hal) (inv.unb j o' x mk hal hl).1)
    | true =>
      obtain ⟨l, q1, q2, q3, q4, _⟩ := hpend j o' x mk hal hl (by omega)
      exact .inr ⟨l, q1, q2, q3, q4⟩
  refine ⟨pk + 1 + d, by simp [inv.lsz], dc_set inv ho hready, d1, fun j o' ho' he' => ?_, d3, p1, frame_set inv hst hreg hN ho hp.ext hu, frame0_set inv ho hp.ext, fun j o' x mk hal hl => ?_, fun j o' x mk hal hl hpk => ?_, p3, p2, ⟨pk + 1, by omega, .inr ⟨o, by simpa using ho, he⟩, p4⟩, by rw [put_size]; exact inv.size, by rw [put_defers']; exact inv.defers⟩
  · rw [getD_set _ _ _ hil]
    by_cases hji : j = pk
    · rw [if_pos hji]; simp; omega
    · rw [if_neg hji, ← inv.pk1 j o' ho' he']
      constructor
      · intro h
        rcases Nat.lt_or_ge j pk with h' | h'
        · exact h'
        · have := d2 j o' (by omega) h ho'; rw [he'] at this; cases this
      · intro h; omega
  · rw [getD_set _ _ _ hil] at hl
    by_cases hji : j = pk
    · rw [if_pos hji] at hl; cases hl
    · rw [if_neg hji] at hl
      obtain ⟨u1, u2⟩ := inv.unb j o' x mk hal hl
      have hjn := hAlt hal
      refine ⟨hnew j hjn u1, fun hjp => ?_⟩
      rcases Nat.lt_or_ge j (pk + 1) with h | h
      · have := u2 (by omega)
        rw [← hp.unborn _ u1 (by omega)] at this
        exact p4 (pk + 1) (Nat.le_refl _) (by omega) _ _ this
      · exact p5 j o' x mk h hjp hal
  · rw [getD_set _ _ _ hil] at hl
    by_cases hji : j = pk
    · omega
    · rw [if_neg hji] at hl
      exact hpend j o' x mk hal hl (by omega)

theorem Inv.step (hE : EnvOk P E) (hcall : CallsOk P call) (inv : Inv E ops F HP V h0 ρ0 w0 N ds listed pk ρ a w) (hst : ∀ j o, ops[j]? = some o → StepOk E call ops.toList h0.n F HP V j j o) (hreg : ∀ j o, ops[j]? = some o → RegOk ops.toList j o)
    (hN : opsOk N ops.toList = true) {hs : List H} (hhs : ∀ k, (k = ops.size ∨ ∃ o, ops[k]? = some o ∧ isEff o = true) → hs[effsTo ops.toList k]? = some (HP k)) (hre : recheck E ops.toList (F ops.size) hs (floats ops.toList (befs ops.toList [])) = true)
    (hi : i ∈ Region.ready .any ops listed) {K : Act → World → Prop} {Q : Exit → Act → World → Prop} (hK : ∀ pk' ρ' a' w', Inv E ops F HP V h0 ρ0 w0 N ds (listed.setIfInBounds i true) pk' ρ' a' w' → K a' w') : wpOp P ops Q i K a w := by
  obtain ⟨hnl', o, ho, hready'⟩ := mem_ready.1 hi
  have hlt : i < ops.size := (Array.getElem?_eq_some_iff.1 ho).1
  have hil : i < listed.size := by rw [inv.lsz]; exact hlt
  have hnl : listed.getD i false = false := by
    simp only [Array.getD_eq_getD_getElem?, hil, getElem?_pos, Option.getD_some] at hnl' ⊢; exact hnl'
  have hready : ∀ e ∈ o.after.toList, Region.binds .any e = true → listed.getD e.on false = true := fun e he hb => hready' e (by simpa using he) hb
  obtain ⟨hk1, hk2⟩ := inv.knows hst hreg ho hnl hready
  have hs := hst i o ho
  -- an effect that is ready is the next one
  have hpi : isEff o = true → pk = i := fun he => by
    have h1 : ¬ i < pk := fun h => by have := (inv.pk1 i o ho he).1 h; rw [hnl] at this; cases this
    rcases Nat.eq_or_lt_of_le (Nat.le_of_not_lt h1) with e | e
    · exact e
    · exfalso
      rcases inv.pk2 with e' | ⟨o', ho', he'⟩
      · omega
      · have hb := (hreg i o ho).eff he pk o' e (by simpa using ho') he'
        have := bef_listed (ops := ops.toList) (L := fun j => listed.getD j false = true) (fun j hj o' ho' e he hb => inv.dc j hj o' (by simpa using ho') e he hb) i o (by simpa using ho) hready pk hb
        have := (inv.pk1 pk o' ho' he').2 this
        omega
  -- nothing of the heap has turned
  have quiet : ∀ {u : Value}, isEff o = false → VR ρ (V i) u → (∀ x mk, ¬ Al E ops F i o x mk) → K (a.put o.dst u) w := fun {u} hne hu hno =>
    hK pk ρ _ w (inv.quiet hst hreg hN ho hready hne hu (Ext.refl _) inv.post (fun j o' x mk _ hal hl => (inv.unb j o' x mk hal hl).1)
      (fun j o' x mk _ hal hl hpk => inv.pend j o' x mk hal hl hpk) (fun x mk hal => absurd hal (hno x mk)))
  unfold wpOp
  simp only [ho]
  rcases hs.step with ⟨hw, hv, hh⟩ | ⟨hw, hstep⟩
  · obtain ⟨hwt, _⟩ := inv.wanted hst hreg ho hnl hready hw
    rw [hwt]
    simp only [Bool.false_eq_true, if_false]
    have hu : VR ρ (V i) undef := by rw [hv]; exact ⟨[], rfl, rfl⟩
    cases he : isEff o with
    | false => exact quiet he hu fun x mk hal => by have := hal.2.2.1; rw [hw] at this; cases this
    | true =>
      have hp := hpi he
      obtain ⟨pk', h⟩ := inv.effect hst hreg hN ho hready he hp hu (w' := w) (by rw [hh, ← hp]; exact Post.refl inv.post.rel)
      exact hK pk' ρ _ w h
  · obtain ⟨hwt, _⟩ := inv.wanted hst hreg ho hnl hready hw
    rw [hwt]
    simp only [if_true]
    left
    cases hc : cls o.op <;> rw [hc] at hstep
    · obtain ⟨u, h1, h2⟩ := pure_sound (P := P) hE hstep.1 hk1
      unfold Oper.wp
      rw [h2 w]
      exact quiet (by simp [isEff, hc]) h1 fun x mk hal => by have := hal.2.1; rw [hc] at this; cases this
    · obtain ⟨x, mk, hx, hvi, hh⟩ := hstep
      obtain ⟨u, C, e, l, h1, h2, h3, h4, h5⟩ := alloc_sound (P := P) hE hx hk1 w
      have hAl : Al E ops F i o x mk := ⟨ho, hc, hw, hx⟩
      obtain ⟨ub1, ub2⟩ := inv.unb i o x mk hAl hnl
      obtain ⟨h6, h7⟩ := h5 _ ub1
      have hold : ∀ c, c < w.heap.size → (w.alloc (.cells C e)).heap[c]? = w.heap[c]? := fun c hc => RowKit.Below.heap_alloc w _ c hc
      have hsz : (w.alloc (.cells C e)).heap.size = w.heap.size + 1 := by simp
      have hroom := inv.room
      have hs0 := inv.post.size
      unfold Oper.wp
      rw [h1]
      refine hK pk (ρ.add (h0.n + i) l) _ _ (inv.quiet hst hreg hN ho hready (by simp [isEff, hc]) (by rw [hvi]; exact h7) (Pl.ext_add ub1) ?_ (fun j o' x' mk' hji hal hl => ?_) (fun j o' x' mk' hji hal hl hpk => ?_) (fun x' mk' hal hpk => ?_))
      · refine inv.post.addLoc (by omega) ub1 (by omega) hold (by omega) (by omega) (by omega) (fun y hy => ?_) rfl rfl rfl
        rcases Nat.lt_or_ge i pk with hip | hip
        · rw [ub2 hip] at hy; cases hy; exact ⟨h6, h3, h4⟩
        · rw [inv.abs i hlt hip] at hy; cases hy
      · have := (inv.unb j o' x' mk' hal hl).1
        simp [Pl.add, hji, this]
      · obtain ⟨m, q1, q2, q3, q4, q5⟩ := inv.pend j o' x' mk' hal hl hpk
        refine ⟨m, by simp [Pl.add, hji, q1], q2.keep (Pl.ext_add ub1) (hold _ q5), fun b y hb hy => ?_, q4, by omega⟩
        by_cases hbi : b = h0.n + i
        · have : y = l := by simpa [Pl.add, hbi, eq_comm] using hy
          rw [this, h2]; omega
        · exact q3 b y hb (by simpa [Pl.add, hbi] using hy)
      · have hxe := hal.2.2.2
        rw [hx] at hxe; cases hxe
        refine ⟨l, by simp [Pl.add], h6, fun b y hb hy => ?_, by omega, by omega⟩
        have hy' : ρ b = some y := by simpa [Pl.add, hb] using hy
        have := inv.post.rel.inh _ _ hy'
        omega
    · have hr := inv.read hst hreg hhs hre ho hnl hready hc hw hstep.1
      have : ∃ u, VR ρ (V i) u ∧ (execOp a.eval o).run P w = .ok (.value u) w := by
        rcases hr with hr | hr
        · exact read_sound hE inv.post.rel hr hk1
        · exact read_sound hE inv.post.rel hr (hk2 (by simp [isRead, hc]))
      obtain ⟨u, h1, h2⟩ := this
      unfold Oper.wp
      rw [h2]
      exact quiet (by simp [isEff, hc]) h1 fun x mk hal => by have := hal.2.1; rw [hc] at this; cases this
    · have he : isEff o = true := by simp [isEff, hc]
      have hp := hpi he
      have hrel := inv.post.rel
      rw [hp] at hrel
      refine eff_sound hE hcall hrel hstep hk1 fun ρ' u w' hu hpo => ?_
      obtain ⟨pk', h⟩ := inv.effect hst hreg hN ho hready he hp hu hpo
      exact hK pk' ρ' _ w' h
end step

/-- all is listed when nothing is ready -/
theorem ready_nil {listed : Array Bool} (hreg : ∀ j o, ops[j]? = some o → RegOk ops.toList j o) (hsz : listed.size = ops.size) (h : Region.ready .any ops listed = []) : ∀ j, j < ops.size → listed.getD j false = true := by
  intro j
  induction j using Nat.strongRecOn with
  | _ j ih =>
    intro hj
    have ho : ops[j]? = some ops[j] := by simp [hj]
    cases hl : listed.getD j false with
    | true => rfl
    | false =>
      exfalso
      have : j ∈ Region.ready .any ops listed := by
        rw [mem_ready]
        refine ⟨?_, ops[j], ho, fun e he hb => ih e.on ((hreg j _ ho).back e (by simpa using he) hb) (Nat.lt_trans ((hreg j _ ho).back e (by simpa using he) hb) hj)⟩
        have hjl : j < listed.size := by rw [hsz]; exact hj
        simp only [Array.getD_eq_getD_getElem?, hjl, getElem?_pos, Option.getD_some] at hl ⊢; exact hl
      rw [h] at this; cases this

theorem count_listed (n : Nat) (listed : Array Bool) : ((List.range n).filter fun j => !listed.getD j false).length ≤ n := by
  have := List.length_filter_le (fun j => !listed.getD j false) (List.range n)
  simpa using this

theorem count_set {listed : Array Bool} {i : Nat} (hi : i < listed.size) (hl : listed.getD i false = false) : ∀ n, i < n → ((List.range n).filter fun j => !(listed.setIfInBounds i true).getD j false).length + 1 = ((List.range n).filter fun j => !listed.getD j false).length
  | 0, h => by omega
  | n + 1, h => by
    rw [List.range_succ, List.filter_append, List.filter_append, List.length_append, List.length_append]
    rcases Nat.lt_or_ge i n with hlt | hge
    · have := count_set hi hl n hlt
      simp only [List.filter_cons, List.filter_nil]
      rw [getD_set listed i n hi, if_neg (show ¬ n = i by omega)]
      cases listed.getD n false <;> simp <;> simpa using this
    · obtain rfl : i = n := by omega
      have hsame : (List.range i).filter (fun j => !(listed.setIfInBounds i true).getD j false) = (List.range i).filter (fun j => !listed.getD j false) := by
        apply List.filter_congr
        intro j hj
        rw [List.mem_range] at hj
        rw [getD_set _ _ _ hi, if_neg (by omega)]
      rw [hsame]
      simp only [List.filter_cons, List.filter_nil]
      rw [getD_set _ _ _ hi, if_pos rfl, hl]
      simp

theorem any_sound (hE : EnvOk P E) (hcall : CallsOk P call) (hst : ∀ j o, ops[j]? = some o → StepOk E call ops.toList h0.n F HP V j j o) (hreg : ∀ j o, ops[j]? = some o → RegOk ops.toList j o)
    (hN : opsOk N ops.toList = true) {hs : List H} (hhs : ∀ k, (k = ops.size ∨ ∃ o, ops[k]? = some o ∧ isEff o = true) → hs[effsTo ops.toList k]? = some (HP k)) (hre : recheck E ops.toList (F ops.size) hs (floats ops.toList (befs ops.toList [])) = true)
    {Q : Exit → Act → World → Prop} (hQ : ∀ ρ' a' w', FR ρ' (F ops.size) a'.tmps → a'.tmps.size = N → a'.defers = ds → Post ρ0 h0 w0 ρ' (HP ops.size) w' → Q .normal a' w') :
    ∀ (fuel : Nat) (listed : Array Bool) (pk : Nat) (ρ : Pl) (a : Act) (w : World), ((List.range ops.size).filter fun j => !listed.getD j false).length ≤ fuel → Inv E ops F HP V h0 ρ0 w0 N ds listed pk ρ a w → wpAny P .any ops Q fuel listed a w := by
  have fin : ∀ (listed : Array Bool) (pk : Nat) (ρ : Pl) (a : Act) (w : World), Inv E ops F HP V h0 ρ0 w0 N ds listed pk ρ a w → (∀ j, j < ops.size → listed.getD j false = true) → Q .normal a w := fun listed pk ρ a w inv hall => by
    have hpk : pk = ops.size := by
      rcases inv.pk2 with e | ⟨o, ho, he⟩
      · exact e
      · have hlt := (Array.getElem?_eq_some_iff.1 ho).1
        have := (inv.pk1 pk o ho he).2 (hall pk hlt)
        omega
    subst hpk
    exact hQ ρ a w (fun t v ht => inv.frame t v ht fun j o ho _ => hall j (Array.getElem?_eq_some_iff.1 ho).1) inv.size inv.defers inv.post
  intro fuel
  induction fuel with
  | zero =>
    intro listed pk ρ a w hc inv
    have hall : ∀ j, j < ops.size → listed.getD j false = true := fun j hj => by
      have h0 : (List.range ops.size).filter (fun j => !listed.getD j false) = [] := List.length_eq_zero_iff.1 (by omega)
      rw [List.filter_eq_nil_iff] at h0
      have := h0 j (by simpa using hj)
      simpa using this
    refine ⟨?_, fin listed pk ρ a w inv hall⟩
    apply List.eq_nil_iff_forall_not_mem.2
    intro j hj
    obtain ⟨h1, o, ho, _⟩ := mem_ready.1 hj
    have hlt := (Array.getElem?_eq_some_iff.1 ho).1
    have := hall j hlt
    have hjl : j < listed.size := by rw [inv.lsz]; exact hlt
    simp only [Array.getD_eq_getD_getElem?, hjl, getElem?_pos, Option.getD_some] at h1 this
    rw [h1] at this; cases this
  | succ fuel ih =>
    intro listed pk ρ a w hc inv
    refine ⟨fun hn => fin listed pk ρ a w inv (ready_nil hreg inv.lsz hn), fun i hi => ?_⟩
    obtain ⟨h1, o, ho, _⟩ := mem_ready.1 hi
    have hlt := (Array.getElem?_eq_some_iff.1 ho).1
    have hil : i < listed.size := by rw [inv.lsz]; exact hlt
    have hnl : listed.getD i false = false := by
      simp only [Array.getD_eq_getD_getElem?, hil, getElem?_pos, Option.getD_some] at h1 ⊢; exact h1
    refine inv.step hE hcall hst hreg hN hhs hre hi fun pk' ρ' a' w' inv' => ih _ pk' ρ' a' w' ?_ inv'
    have := count_set hil hnl ops.size hlt
    omega

/-- A REGION THAT DRAWS ITS ORDER -/
theorem draw_sound (hE : EnvOk P E) (hcall : CallsOk P call) {id : Nat} {fr fr' : T AV} {h h' : H} (hrun : regionA E call ops.toList true fr h = some (fr', h')) (hN : opsOk N ops.toList = true) {ρ : Pl} {a : Act} {w : World} (hf : FR ρ fr a.tmps) (hr : R ρ h w) (hsz : a.tmps.size = N)
    {Q : Exit → Act → World → Prop} (hQ : ∀ ρ' a' w', FR ρ' fr' a'.tmps → a'.tmps.size = N → a'.defers = a.defers → Post ρ h w ρ' h' w' → Q .normal a' w') : (Code.region id ops true).wp P Q a w := by
  simp only [regionA] at hrun
  split at hrun
  · cases hrun
  · rename_i fl hfl
    split at hrun
    · cases hrun
    · rename_i fr2 h2 hs hD
      split at hrun
      · rename_i hre
        cases hrun
        obtain ⟨hreg, hfle⟩ := regSt_spec hfl
        subst hfle
        have hreg' : ∀ j o, ops[j]? = some o → RegOk ops.toList j o := fun j o ho => hreg j o (by simpa using ho)
        obtain ⟨F, HP, V, e1, e2, e3, e4, e5, e6⟩ := runD_trace call ops.toList h.n ops.toList 0 fr ⟨h.t, h.n + lenN ops.toList⟩ fr' h' hs hD
        rw [Array.length_toList] at e3 e4 e6
        have hst : ∀ j o, ops[j]? = some o → StepOk E call ops.toList h.n F HP V j j o := fun j o ho => by
          have := e5 j o (by simpa using ho)
          rwa [Nat.zero_add] at this
        have hhs : ∀ k, (k = ops.size ∨ ∃ o, ops[k]? = some o ∧ isEff o = true) → hs[effsTo ops.toList k]? = some (HP k) := fun k hk => e6 k (by simpa using hk)
        refine wp_region_any hE.mixed ?_
        have hr' : R ρ h { w with drawn := w.drawn + 1 } := hr.world rfl
        -- the heap with numbers kept
        have hget0 : ∀ b, (HP 0).get b = h.get b := fun b => by rw [e2]; rfl
        have hn0 : (HP 0).n = h.n + ops.size := by rw [e2, lenN_eq]; simp
        have hR0 : R ρ (HP 0) { w with drawn := w.drawn + 1 } := by
          refine ⟨fun b l x h1 h2 => hr'.blk b l x h1 (by rw [← hget0]; exact h2), fun b c l m x y h1 h2 h3 h4 h5 h6 h7 h8 => hr'.sep b c l m x y h1 h2 h3 (by rw [← hget0]; exact h4) (by rw [← hget0]; exact h5) h6 h7 h8, fun b hb => ?_, hr'.inh, fun b l x c h1 h2 h3 => ?_⟩
          · rw [hget0]; exact hr'.fresh b (by omega)
          · obtain ⟨q1, q2, q3⟩ := hr'.links b l x c h1 (by rw [← hget0]; exact h2) h3
            exact ⟨q1, by omega, by rw [hget0]; exact q3⟩
        have hP0 : Post ρ h { w with drawn := w.drawn + 1 } ρ (HP 0) { w with drawn := w.drawn + 1 } :=
          ⟨Ext.refl _, hR0, Nat.le_refl _, fun _ _ _ => rfl, fun c _ ⟨b, l, x, h1, h2, h3, h4⟩ => ⟨b, l, x, h1, by rw [← hget0]; exact h2, h3, h4⟩, (fun b l h1 h2 => by rw [h1] at h2; cases h2), fun b _ _ => hget0 b, fun b _ h1 => by rw [hget0]; exact h1, by omega, rfl, rfl, rfl⟩
        have hρn : ∀ j, ρ (h.n + j) = none := fun j => (hr.fresh _ (by omega)).2
        obtain ⟨d, d1, d2, d3⟩ := next_eff ops ops.size 0 (by omega)
        obtain ⟨p1, p2, p3, p4, p5⟩ := advance hst (ρ := ρ) (w := { w with drawn := w.drawn + 1 }) (ρ0 := ρ) (w0 := { w with drawn := w.drawn + 1 }) d 0 d1 d2 hP0 (by omega) (fun j h1 h2 => by rw [hget0]; exact (hr.fresh _ (by omega)).1) fun j o x mk _ _ _ => .inl (hρn j)
        rw [Nat.zero_add] at d1 d2 d3 p1 p2 p3 p4 p5
        have hrep : ∀ j, (Array.replicate ops.size false).getD j false = false := fun j => by
          by_cases hj : j < ops.size <;> simp [hj]
        -- a slot that no operation of the region writes
        have hfr0 : ∀ t, (∀ (j : Nat) (o : Oper), ops[j]? = some o → o.dst ≠ some t) → (F ops.size).get t = fr.get t := fun t ht => by
          have := frame_at hst hreg' (t := t) (i := 0) ops.size (by omega) fun j o _ _ h3 => ht j o h3
          rw [Nat.zero_add, e1] at this; exact this
        refine any_sound (ρ0 := ρ) (w0 := { w with drawn := w.drawn + 1 }) (ds := a.defers) hE hcall hst hreg' hN hhs (by rw [e3]; exact hre) (fun ρ' a' w' q1 q2 q3 q4 => ?_) ops.size (Array.replicate ops.size false) d ρ a { w with drawn := w.drawn + 1 } (count_listed _ _) ?_
        · rw [e3] at q1; rw [e4] at q4
          exact hQ ρ' a' w' q1 q2 q3 (q4.world rfl rfl rfl rfl)
        · refine ⟨by simp, (fun j hj => by rw [hrep] at hj; cases hj), d1, fun j o ho he => ?_, d3, p1, fun t v hv hl => ?_, fun t v hv _ => ?_, fun j o x mk hal hl => ?_, (fun j o x mk hal hl => by rw [hrep] at hl; cases hl), fun j h1 h2 => p3 j h1 h2, p2, ⟨0, by omega, .inl rfl, fun m h1 h2 => p4 m h1 h2⟩, hsz, rfl⟩
          · rw [hrep]
            constructor
            · intro h; have := d2 j o (by omega) h ho; rw [he] at this; cases this
            · intro h; cases h
          · rw [hfr0 t (fun j o ho hd => by have := hl j o ho hd; rw [hrep] at this; cases this)] at hv
            exact hf t v hv
          · rw [e1] at hv; exact hf t v hv
          · exact ⟨hρn j, fun h => p5 j o x mk (by omega) h hal⟩
      · cases hrun
end
end Go.Abs
