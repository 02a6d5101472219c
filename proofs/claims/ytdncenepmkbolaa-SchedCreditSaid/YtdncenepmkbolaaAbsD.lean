/-
  A region that draws its order: what is told of its text; its trace.
-/
import Derived.Test.YtdncenepmkbolaaAbsF
namespace Go.Abs
open Go

/-! what comes before what -/
def maskOf (acc : List Nat) (o : Oper) : Nat := o.after.toList.foldl (fun s e => if Region.binds .any e then s ||| 2 ^ e.on ||| acc.getD e.on 0 else s) 0

theorem mask_bit (acc : List Nat) (i : Nat) : ∀ (l : List Edge) (s : Nat), Nat.testBit (l.foldl (fun s e => if Region.binds .any e then s ||| 2 ^ e.on ||| acc.getD e.on 0 else s) s) i = true →
    Nat.testBit s i = true ∨ ∃ e ∈ l, Region.binds .any e = true ∧ (e.on = i ∨ Nat.testBit (acc.getD e.on 0) i = true)
  | [], s, h => .inl h
  | e :: l, s, h => by
    rw [List.foldl_cons] at h
    rcases mask_bit acc i l _ h with h1 | ⟨e', h1, h2⟩
    · split at h1
      · rename_i hb
        rw [Nat.testBit_or, Nat.testBit_or, Nat.testBit_two_pow] at h1
        simp only [Bool.or_eq_true, decide_eq_true_eq] at h1
        rcases h1 with (h1 | h1) | h1
        · exact .inl h1
        · exact .inr ⟨e, by simp, hb, .inl h1⟩
        · exact .inr ⟨e, by simp, hb, .inr h1⟩
      · exact .inl h1
    · exact .inr ⟨e', by simp [h1], h2⟩

theorem befs_cons (o : Oper) (r : List Oper) (acc : List Nat) : befs (o :: r) acc = befs r (acc ++ [maskOf acc o]) := rfl
theorem befs_pre : ∀ (l : List Oper) (acc : List Nat), (befs l acc).length = acc.length + l.length ∧ ∀ k, k < acc.length → (befs l acc)[k]? = acc[k]?
  | [], acc => ⟨by simp [befs], fun _ _ => rfl⟩
  | o :: r, acc => by
    rw [befs_cons]
    obtain ⟨h1, h2⟩ := befs_pre r (acc ++ [maskOf acc o])
    refine ⟨by rw [h1]; simp; omega, fun k hk => ?_⟩
    rw [h2 k (by simp; omega), List.getElem?_append_left hk]
theorem befs_at : ∀ (l : List Oper) (acc : List Nat) (j : Nat) (o : Oper), l[j]? = some o → ∃ acc', acc'.length = acc.length + j ∧ (∀ k, k < acc'.length → acc'[k]? = (befs l acc)[k]?) ∧ (befs l acc)[acc.length + j]? = some (maskOf acc' o)
  | [], acc, j, o, h => by simp at h
  | x :: r, acc, j, o, h => by
    rw [befs_cons]
    obtain ⟨p1, p2⟩ := befs_pre r (acc ++ [maskOf acc x])
    cases j with
    | zero =>
      simp at h; subst h
      refine ⟨acc, rfl, fun k hk => ?_, ?_⟩
      · rw [p2 k (by simp; omega), List.getElem?_append_left hk]
      · rw [Nat.add_zero, p2 _ (by simp), List.getElem?_append_right (Nat.le_refl _)]; simp
    | succ j =>
      obtain ⟨acc', q1, q2, q3⟩ := befs_at r (acc ++ [maskOf acc x]) j o (by simpa using h)
      refine ⟨acc', by rw [q1]; simp; omega, q2, ?_⟩
      rw [← q3]; congr 1; simp; omega

/-- whose numbers a mask bears -/
theorem bef_spec {ops : List Oper} {j i : Nat} {o : Oper} (ho : ops[j]? = some o) (h : Nat.testBit ((befs ops []).getD j 0) i = true) :
    ∃ e ∈ o.after.toList, Region.binds .any e = true ∧ (e.on = i ∨ (e.on < j ∧ Nat.testBit ((befs ops []).getD e.on 0) i = true)) := by
  obtain ⟨acc', q1, q2, q3⟩ := befs_at ops [] j o ho
  simp only [List.length_nil, Nat.zero_add] at q1 q3
  rw [List.getD_eq_getElem?_getD, q3] at h
  simp only [Option.getD_some, maskOf] at h
  rcases mask_bit acc' i _ _ h with h1 | ⟨e, h1, h2, h3⟩
  · simp at h1
  · refine ⟨e, h1, h2, h3.imp id fun h4 => ?_⟩
    rcases Nat.lt_or_ge e.on acc'.length with hl | hl
    · refine ⟨by omega, ?_⟩
      rw [List.getD_eq_getElem?_getD, ← q2 _ hl, ← List.getD_eq_getElem?_getD]; exact h4
    · rw [List.getD_eq_getElem?_getD, List.getElem?_eq_none hl] at h4; simp at h4

/-- what is listed, with all that it hangs on -/
theorem bef_listed {ops : List Oper} {L : Nat → Prop} (hdc : ∀ j, L j → ∀ o, ops[j]? = some o → ∀ e ∈ o.after.toList, Region.binds .any e = true → L e.on) :
    ∀ (j : Nat) (o : Oper), ops[j]? = some o → (∀ e ∈ o.after.toList, Region.binds .any e = true → L e.on) → ∀ i, Nat.testBit ((befs ops []).getD j 0) i = true → L i := by
  intro j
  induction j using Nat.strongRecOn with
  | _ j ih =>
    intro o ho hr i hi
    obtain ⟨e, h1, h2, h3⟩ := bef_spec ho hi
    have hl := hr e h1 h2
    rcases h3 with rfl | ⟨h3, h4⟩
    · exact hl
    · have hlt : e.on < ops.length := Nat.lt_trans h3 (List.getElem?_eq_some_iff.1 ho).1
      exact ih e.on h3 ops[e.on] (by simp) (fun e' he' hb' => hdc _ hl _ (by simp) e' he' hb') i h4

/-! what is asked of the text -/
structure RegOk (ops : List Oper) (j : Nat) (o : Oper) : Prop where
  back : ∀ e ∈ o.after.toList, Region.binds .any e = true → e.on < j
  guard : ∀ g want, o.guard = some (g, want) → Nat.testBit ((befs ops []).getD j 0) g = true
  eff : isEff o = true → ∀ i o', i < j → ops[i]? = some o' → isEff o' = true → Nat.testBit ((befs ops []).getD j 0) i = true
  dst : ∀ d, o.dst = some d → ∀ i o', i < j → ops[i]? = some o' → o'.dst ≠ some d
  looks : ∀ t ∈ looks ops o, ∀ i o', ops[i]? = some o' → o'.dst = some t → i < j ∧ Nat.testBit ((befs ops []).getD j 0) i = true

theorem regGo_spec {ops : List Oper} : ∀ (l : List Oper) (i : Nat), ops.drop i = l → regGo ops (befs ops []) l i = true → ∀ k o, l[k]? = some o → RegOk ops (i + k) o
  | [], i, _, _, k, o, h => by simp at h
  | x :: r, i, hd, h, k, o, hk => by
    simp only [regGo, Bool.and_eq_true] at h
    obtain ⟨⟨⟨⟨⟨h1, h2⟩, h3⟩, h4⟩, h5⟩, h6⟩ := h
    cases k with
    | succ k =>
      have := regGo_spec r (i + 1) (by rw [← List.drop_drop, hd]; rfl) h6 k o (by simpa using hk)
      rw [show i + (k + 1) = i + 1 + k from by omega]; exact this
    | zero =>
      simp at hk; subst hk
      rw [Nat.add_zero]
      refine ⟨fun e he hb => ?_, fun g want hg => ?_, fun he i' o' hi' ho' he' => ?_, fun d hd' i' o' hi' ho' he' => ?_, fun t ht i' o' ho' he' => ?_⟩
      · have := List.all_eq_true.1 h1 e he
        simpa [hb, Nat.blt_eq] using this
      · rw [hg] at h2; exact h2
      · rw [he] at h3
        simp only [Bool.not_true, Bool.false_or] at h3
        have := List.all_eq_true.1 h3 i' (by simpa using hi')
        simpa [ho', he'] using this
      · rw [hd'] at h4
        have := List.all_eq_true.1 h4 i' (by simpa using hi')
        simp [ho', he'] at this
      · have h5' := List.all_eq_true.1 h5 t ht
        have hlt : i' < ops.length := (List.getElem?_eq_some_iff.1 ho').1
        have := List.all_eq_true.1 h5' i' (by simpa using hlt)
        simpa [ho', he', Nat.blt_eq] using this

theorem regSt_spec {ops : List Oper} {fl : List (Nat × Nat)} (h : regSt ops = some fl) : (∀ j o, ops[j]? = some o → RegOk ops j o) ∧ fl = floats ops (befs ops []) := by
  unfold regSt at h
  simp only at h
  split at h
  · rename_i hg
    cases h
    refine ⟨fun j o ho => ?_, rfl⟩
    have := regGo_spec ops 0 (by simp) hg j o ho
    rwa [Nat.zero_add] at this
  · cases h

section
variable {E : Env}

/-! the trace -/
structure StepOk (E : Env) (call : CallF) (ops : List Oper) (base : Nat) (F : Nat → T AV) (HP : Nat → H) (V : Nat → AV) (i j : Nat) (o : Oper) : Prop where
  next : F (i + 1) = putD (F i) o.dst (V i)
  step : (wantedA ops (F i) o = some false ∧ V i = .tup [] ∧ HP (i + 1) = HP i) ∨ (wantedA ops (F i) o = some true ∧
    match cls o.op with
    | .pure => pureA E (F i) o.op = some (V i) ∧ HP (i + 1) = HP i
    | .read => readA E (F i) (HP i) o.op = some (V i) ∧ HP (i + 1) = HP i
    | .alloc => ∃ x mk, allocA E (F i) o.op = some (x, mk) ∧ V i = mk (base + j) ∧ HP (i + 1) = (HP i).put (base + j) x
    | .eff => effA E call (F i) (HP i) o.op = some (V i, HP (i + 1)))

theorem runD_cons (call : CallF) (ops : List Oper) (base : Nat) (o : Oper) (r : List Oper) (i : Nat) (fr : T AV) (h : H) : runD E call ops base (o :: r) i fr h =
    match cls o.op with
    | .pure => match wantedA ops fr o with
      | some true => match pureA E fr o.op with
        | some v => runD E call ops base r (i + 1) (putD fr o.dst v) h
        | none => none
      | some false => runD E call ops base r (i + 1) (putD fr o.dst (.tup [])) h
      | none => none
    | .read => match wantedA ops fr o with
      | some true => match readA E fr h o.op with
        | some v => runD E call ops base r (i + 1) (putD fr o.dst v) h
        | none => none
      | some false => runD E call ops base r (i + 1) (putD fr o.dst (.tup [])) h
      | none => none
    | .alloc => match wantedA ops fr o with
      | some true => match allocA E fr o.op with
        | some (x, mk) => runD E call ops base r (i + 1) (putD fr o.dst (mk (base + i))) (h.put (base + i) x)
        | none => none
      | some false => runD E call ops base r (i + 1) (putD fr o.dst (.tup [])) h
      | none => none
    | .eff => match wantedA ops fr o with
      | some true => match effA E call fr h o.op with
        | some (v, h') => match runD E call ops base r (i + 1) (putD fr o.dst v) h' with
          | some (fr', h'', hs) => some (fr', h'', h :: hs)
          | none => none
        | none => none
      | some false => match runD E call ops base r (i + 1) (putD fr o.dst (.tup [])) h with
          | some (fr', h'', hs) => some (fr', h'', h :: hs)
          | none => none
      | none => none := rfl

def shift {α : Type} (x : α) (f : Nat → α) : Nat → α
  | 0 => x
  | n + 1 => f n

theorem effsTo_zero (l : List Oper) : effsTo l 0 = 0 := by simp [effsTo]
theorem effsTo_cons (o : Oper) (r : List Oper) (k : Nat) : effsTo (o :: r) (k + 1) = (if isEff o then 1 else 0) + effsTo r k := by
  simp only [effsTo, List.take_succ_cons, List.filter_cons]
  split <;> simp <;> omega

theorem runD_trace (call : CallF) (ops : List Oper) (base : Nat) : ∀ (l : List Oper) (i : Nat) (fr : T AV) (h : H) (fr' : T AV) (h' : H) (hs : List H), runD E call ops base l i fr h = some (fr', h', hs) →
    ∃ (F : Nat → T AV) (HP : Nat → H) (V : Nat → AV), F 0 = fr ∧ HP 0 = h ∧ F l.length = fr' ∧ HP l.length = h' ∧ (∀ k o, l[k]? = some o → StepOk E call ops base F HP V k (i + k) o) ∧
      ∀ k, (k = l.length ∨ ∃ o, l[k]? = some o ∧ isEff o = true) → hs[effsTo l k]? = some (HP k)
  | [], i, fr, h, fr', h', hs, hrun => by
    cases hrun
    refine ⟨fun _ => fr, fun _ => h, fun _ => .nilp, rfl, rfl, rfl, rfl, by simp, fun k hk => ?_⟩
    simp [effsTo]
  | o :: r, i, fr, h, fr', h', hs, hrun => by
    -- what is common: one step, then the rest
    have go : ∀ (v : AV) (h1 : H) (hs1 : List H), runD E call ops base r (i + 1) (putD fr o.dst v) h1 = some (fr', h', hs1) →
        (∀ (F : Nat → T AV) (HP : Nat → H) (V : Nat → AV), F 0 = fr → HP 0 = h → V 0 = v → F 1 = putD fr o.dst v → HP 1 = h1 → StepOk E call ops base F HP V 0 i o) →
        hs = (if isEff o then h :: hs1 else hs1) →
        ∃ (F : Nat → T AV) (HP : Nat → H) (V : Nat → AV), F 0 = fr ∧ HP 0 = h ∧ F (o :: r).length = fr' ∧ HP (o :: r).length = h' ∧ (∀ k o', (o :: r)[k]? = some o' → StepOk E call ops base F HP V k (i + k) o') ∧
          ∀ k, (k = (o :: r).length ∨ ∃ o', (o :: r)[k]? = some o' ∧ isEff o' = true) → hs[effsTo (o :: r) k]? = some (HP k) := by
      intro v h1 hs1 hr hst hhs
      obtain ⟨F, HP, V, q1, q2, q3, q4, q5, q6⟩ := runD_trace call ops base r (i + 1) _ h1 fr' h' hs1 hr
      refine ⟨shift fr F, shift h HP, shift v V, rfl, rfl, q3, q4, fun k o' hk => ?_, fun k hk => ?_⟩
      · cases k with
        | zero =>
          simp at hk; subst hk
          exact hst _ _ _ rfl rfl rfl q1 q2
        | succ k =>
          have := q5 k o' (by simpa using hk)
          rw [show i + (k + 1) = i + 1 + k from by omega]
          exact ⟨this.next, this.step⟩
      · cases k with
        | zero =>
          rw [effsTo_zero]
          rcases hk with hk | ⟨o', hk, he⟩
          · simp at hk
          · simp at hk; subst hk
            rw [hhs, if_pos he]; rfl
        | succ k =>
          have := q6 k (hk.imp (by simp) fun ⟨o', h1, h2⟩ => ⟨o', by simpa using h1, h2⟩)
          change _ = some (HP k)
          rw [effsTo_cons, hhs]
          split
          · rename_i he; rw [Nat.add_comm]; simpa using this
          · simpa using this
    rw [runD_cons] at hrun
    split at hrun
    · rename_i hc
      have hne : isEff o = false := by simp [isEff, hc]
      split at hrun
      · rename_i hw
        split at hrun
        · rename_i v hv
          exact go v h hs hrun (fun F HP V e0 e1 e2 e3 e4 => ⟨by rw [e3, e0, e2], .inr ⟨by rw [e0]; exact hw, by rw [hc, e0, e2, e1, e4]; exact ⟨hv, rfl⟩⟩⟩) (by simp [hne])
        · cases hrun
      · rename_i hw
        exact go (.tup []) h hs hrun (fun F HP V e0 e1 e2 e3 e4 => ⟨by rw [e3, e0, e2], .inl ⟨by rw [e0]; exact hw, e2, by rw [e4, e1]⟩⟩) (by simp [hne])
      · cases hrun
    · rename_i hc
      have hne : isEff o = false := by simp [isEff, hc]
      split at hrun
      · rename_i hw
        split at hrun
        · rename_i v hv
          exact go v h hs hrun (fun F HP V e0 e1 e2 e3 e4 => ⟨by rw [e3, e0, e2], .inr ⟨by rw [e0]; exact hw, by rw [hc, e0, e2, e1, e4]; exact ⟨hv, rfl⟩⟩⟩) (by simp [hne])
        · cases hrun
      · rename_i hw
        exact go (.tup []) h hs hrun (fun F HP V e0 e1 e2 e3 e4 => ⟨by rw [e3, e0, e2], .inl ⟨by rw [e0]; exact hw, e2, by rw [e4, e1]⟩⟩) (by simp [hne])
      · cases hrun
    · rename_i hc
      have hne : isEff o = false := by simp [isEff, hc]
      split at hrun
      · rename_i hw
        split at hrun
        · rename_i x mk hv
          exact go (mk (base + i)) _ hs hrun (fun F HP V e0 e1 e2 e3 e4 => ⟨by rw [e3, e0, e2], .inr ⟨by rw [e0]; exact hw, by rw [hc, e0, e2, e1, e4]; exact ⟨x, mk, hv, rfl, rfl⟩⟩⟩) (by simp [hne])
        · cases hrun
      · rename_i hw
        exact go (.tup []) h hs hrun (fun F HP V e0 e1 e2 e3 e4 => ⟨by rw [e3, e0, e2], .inl ⟨by rw [e0]; exact hw, e2, by rw [e4, e1]⟩⟩) (by simp [hne])
      · cases hrun
    · rename_i hc
      have hne : isEff o = true := by simp [isEff, hc]
      split at hrun
      · rename_i hw
        split at hrun
        · rename_i v h1 hv
          split at hrun
          · rename_i fr2 h2 hs2 hr2
            cases hrun
            exact go v h1 hs2 hr2 (fun F HP V e0 e1 e2 e3 e4 => ⟨by rw [e3, e0, e2], .inr ⟨by rw [e0]; exact hw, by rw [hc, e0, e2, e1, e4]; exact hv⟩⟩) (by simp [hne])
          · cases hrun
        · cases hrun
      · rename_i hw
        split at hrun
        · rename_i fr2 h2 hs2 hr2
          cases hrun
          exact go (.tup []) h hs2 hr2 (fun F HP V e0 e1 e2 e3 e4 => ⟨by rw [e3, e0, e2], .inl ⟨by rw [e0]; exact hw, e2, by rw [e4, e1]⟩⟩) (by simp [hne])
        · cases hrun
      · cases hrun
end
end Go.Abs
