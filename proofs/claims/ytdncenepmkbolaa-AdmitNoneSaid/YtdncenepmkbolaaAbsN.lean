/-
  THE RECKONING OF WHOLE FUNCTIONS: at a loop, and where ways meet, the reckoning asks for what holds there, told of the slots that are written and needed behind it.
-/
import Derived.Test.YtdncenepmkbolaaAbsI
namespace Go.Abs.W
noncomputable section
open Go Go.Abs Go.Abs.S

/-- a slot's kind -/
inductive Kd where
  | int (k : IntKind)
  | bool
  | str
  | ptr
  | agg
  | any
abbrev Pat := List (Nat × Kd)

/-- the slots that a code writes -/
def asg (c : Code) : List Nat :=
  Code.rec (motive := fun _ => List Nat) [] (fun _ ops _ => ops.toList.filterMap (·.dst)) (fun _ _ a b => a ++ b) (fun _ _ _ a b => a ++ b) (fun _ _ a => a) (fun _ a => a)
    (fun _ _ _ _ _ _ => []) (fun _ => []) (fun _ a => a) (fun _ => []) (fun _ => []) [] (fun _ => []) c
/-- the number of the first region, and one -/
def fstR (c : Code) : Nat :=
  Code.rec (motive := fun _ => Nat) 0 (fun id _ _ => id + 1) (fun _ _ a b => match a with | 0 => b | n + 1 => n + 1) (fun _ _ _ a b => match a with | 0 => b | n + 1 => n + 1) (fun _ _ a => a) (fun _ a => a)
    (fun _ _ _ _ _ _ => 0) (fun _ => 0) (fun _ a => a) (fun _ => 0) (fun _ => 0) 0 (fun _ => 0) c

def dropA (l : List Nat) (f : T SV) : T SV := List.rec f (fun i _ ih => T.set none ih i) l
def fitV (kd : Kd) (s : SV) : Option AV :=
  match kd, s with
  | .int k, .int k' n => match decide (k = k') with | true => some (.int k n) | false => none
  | .bool, .lit b => some (.bool b)
  | .bool, .bool b => some (.bool b)
  | .str, .str s => some (.str s)
  | .ptr, .ptr b o => some (.ptr b o)
  | .agg, .agg cs => some (.agg cs)
  | .any, s => some s.av
  | _, _ => none
def valsW (f : T SV) (pat : Pat) : Option (List AV) :=
  List.rec (some []) (fun p _ ih => match f.get p.1 with
    | some s => match fitV p.2 s with
      | some a => match ih with
        | some l => some (a :: l)
        | none => none
      | none => none
    | none => none) pat
def allP (pat : Pat) : (T SV → List AV → Prop) → T SV → Prop :=
  List.rec (fun K f => K f []) (fun p _ ih K f => match p.2 with
    | .int k => ∀ n : Int, ih (fun f l => K f (.int k n :: l)) (f.put p.1 (.int k n))
    | .bool => ∀ c : Bool, ih (fun f l => K f (.bool c :: l)) (f.put p.1 (.bool c))
    | .str => ∀ s : List UInt8, ih (fun f l => K f (.str s :: l)) (f.put p.1 (.str s))
    | .ptr => ∀ b o : Nat, ih (fun f l => K f (.ptr b o :: l)) (f.put p.1 (.ptr b o))
    | .agg => ∀ cs : List AV, ih (fun f l => K f (.agg cs :: l)) (f.put p.1 (.agg cs))
    | .any => ∀ a : AV, ih (fun f l => K f (a :: l)) (f.put p.1 (.v a))) pat

/-- the questions at loops and where ways meet -/
structure Pn extends Pr where
  inv : ((List AV → Nat → H → Prop) → Prop) → ((List AV → Nat → H → Prop) → Prop) → Prop
  fst : (List AV → Nat → H → Prop) → List AV → H → Prop
  nxt : (List AV → Nat → H → Prop) → Nat → List AV → H → Prop
  meet : ((List AV → H → Prop) → Prop) → ((List AV → H → Prop) → Prop) → Prop

def fstN (F : Nat) (I : List AV → Nat → H → Prop) (l : List AV) (h : H) : Prop := ∃ m, m < F ∧ I l m h
def nxtN (I : List AV → Nat → H → Prop) (m : Nat) (l : List AV) (h : H) : Prop := ∃ m', m' < m ∧ I l m' h
/-- what is held by it is not looked into by 'simp' -/
structure Hide {α : Type} (A B : α → Prop) : Type where
def invN (A B : (List AV → Nat → H → Prop) → Prop) (_ : Hide A B) : Prop := ∃ I, A I ∧ B I
def meetN (A B : (List AV → H → Prop) → Prop) (_ : Hide A B) : Prop := ∃ I, A I ∧ B I
def stdN (E : Env) (call : CallF) (F : Nat) : Pn := { std E call F with
  inv := fun A B => invN A B ⟨⟩
  fst := fstN F
  nxt := nxtN
  meet := fun A B => meetN A B ⟨⟩ }

section
variable (p : Pn) (E : Env)
def loopQ (pat : Pat) (I : List AV → Nat → H → Prop) (m : Nat) (Q : Ex → T SV → H → Prop) (e : Ex) (f : T SV) (h : H) : Prop :=
  match e with
  | .norm => match valsW f pat with
    | some vs => p.nxt I m vs h
    | none => False
  | .exit j => Q (.exit j) f h
  | .ret => Q .ret f h
def meetQ (pat : Pat) (I : List AV → H → Prop) (Q : Ex → T SV → H → Prop) (e : Ex) (f : T SV) (h : H) : Prop :=
  match e with
  | .norm => match valsW f pat with
    | some vs => I vs h
    | none => False
  | .exit j => Q (.exit j) f h
  | .ret => Q .ret f h
def annOf (n : Nat) (l : List (Nat × Pat)) : Option Pat := List.rec none (fun p _ ih => match Nat.beq p.1 n with | true => some p.2 | false => ih) l

/-- ann: at loops, by the number of the body's first region, and one; jn: where ways meet, by the number of the first region behind, and one -/
def wpN (ann jn : List (Nat × Pat)) (c : Code) : (Ex → T SV → H → Prop) → T SV → H → Prop :=
  Code.rec (motive := fun _ => (Ex → T SV → H → Prop) → T SV → H → Prop)
    (fun Q f h => Q .norm f h)
    (fun _ ops draw Q f h => regionW p.toPr E ops.toList draw (fun f h => Q .norm f h) f h)
    (fun a b ia ib Q f h => match annOf (fstR b) jn with
      | none => ia (seqQ ib Q) f h
      | some pat => p.meet (fun I => ia (meetQ pat I Q) f h) (fun I => allP pat (fun f l => ∀ h, I l h → ib Q f h) (dropA (asg a) f)))
    (fun c _ _ ia ib Q f h => lk f c fun s => match s with
      | .lit true => ia Q f h
      | .lit false => ib Q f h
      | .bool b => match c with
        | .tmp t => p.cond b (ia Q (f.put t (.lit true)) h) (ib Q (f.put t (.lit false)) h)
        | _ => p.cond b (ia Q f h) (ib Q f h)
      | _ => False)
    (fun id _ ia Q f h => ia (blockQ id Q) f h)
    (fun c ia Q f h => match annOf (fstR c) ann with
      | none => False
      | some pat => match valsW f pat with
        | none => False
        | some vs => p.inv (fun I => p.fst I vs h) (fun I => allP pat (fun f l => ∀ m h, I l m h → ia (loopQ p pat I m Q) f h) (dropA (asg c) f)))
    (fun _ _ _ _ _ _ _ _ _ => False)
    (fun id Q f h => Q (.exit id) f h)
    (fun _ ia Q f h => ia Q f h)
    (fun _ Q f h => Q .norm f h)
    (fun _ _ _ _ => False)
    (fun Q f h => Q .ret f h)
    (fun _ _ _ _ => False)
    c
end

/-! slots that are not written -/
section
variable {E : Env} {call : CallF} {F : Nat}
theorem get_set {α : Type} (v : Option α) : ∀ (t : T α) (i j : Nat), (T.set v t i).get j = if j = i then v else t.get j := T.get_set v
theorem putD_ne {fr : T AV} {d : Option Tmp} {v : AV} {i : Nat} (h : d ≠ some i) : (Go.Abs.putD fr d v).get i = fr.get i := by
  cases d with
  | none => rfl
  | some d =>
    show (fr.put d v).get i = _
    rw [T.get_put, if_neg (fun e => h (by rw [e]))]
theorem dst_ne {o : Oper} {l : List Oper} {i : Nat} (h : i ∉ (o :: l).filterMap (·.dst)) : o.dst ≠ some i ∧ i ∉ l.filterMap (·.dst) := by
  constructor
  · intro e; apply h; rw [List.mem_filterMap]; exact ⟨o, by simp, e⟩
  · intro e; apply h; rw [List.mem_filterMap] at e ⊢
    obtain ⟨a, h1, h2⟩ := e
    exact ⟨a, List.mem_cons_of_mem _ h1, h2⟩
theorem runOps_keep {ops : List Oper} {i : Nat} : ∀ {l : List Oper} {fr fr' : T AV} {h h' : H}, runOps E call ops l fr h = some (fr', h') → i ∉ l.filterMap (·.dst) → fr'.get i = fr.get i
  | [], fr, fr', h, h', e, _ => by cases e; rfl
  | o :: l, fr, fr', h, h', e, hi => by
    obtain ⟨h1, h2⟩ := dst_ne hi
    have e' : (match wantedA ops fr o with
      | some true => match execA E call fr h o.op with
        | some (v, h) => runOps E call ops l (Go.Abs.putD fr o.dst v) h
        | none => none
      | some false => runOps E call ops l (Go.Abs.putD fr o.dst (.tup [])) h
      | none => none) = some (fr', h') := e
    split at e'
    · split at e'
      · rw [runOps_keep e' h2, putD_ne h1]
      · cases e'
    · rw [runOps_keep e' h2, putD_ne h1]
    · cases e'
theorem runD_keep {ops : List Oper} {base i : Nat} : ∀ {l : List Oper} {k : Nat} {fr fr' : T AV} {h h' : H} {hs : List H}, runD E call ops base l k fr h = some (fr', h', hs) → i ∉ l.filterMap (·.dst) → fr'.get i = fr.get i
  | [], k, fr, fr', h, h', hs, e, _ => by cases e; rfl
  | o :: l, k, fr, fr', h, h', hs, e, hi => by
    obtain ⟨h1, h2⟩ := dst_ne hi
    have e' : (match cls o.op with
    | .pure => match wantedA ops fr o with
      | some true => match pureA E fr o.op with
        | some v => runD E call ops base l (k + 1) (Go.Abs.putD fr o.dst v) h
        | none => none
      | some false => runD E call ops base l (k + 1) (Go.Abs.putD fr o.dst (.tup [])) h
      | none => none
    | .read => match wantedA ops fr o with
      | some true => match readA E fr h o.op with
        | some v => runD E call ops base l (k + 1) (Go.Abs.putD fr o.dst v) h
        | none => none
      | some false => runD E call ops base l (k + 1) (Go.Abs.putD fr o.dst (.tup [])) h
      | none => none
    | .alloc => match wantedA ops fr o with
      | some true => match allocA E fr o.op with
        | some (x, mk) => runD E call ops base l (k + 1) (Go.Abs.putD fr o.dst (mk (base + k))) (h.put (base + k) x)
        | none => none
      | some false => runD E call ops base l (k + 1) (Go.Abs.putD fr o.dst (.tup [])) h
      | none => none
    | .eff => match wantedA ops fr o with
      | some true => match effA E call fr h o.op with
        | some (v, h') => match runD E call ops base l (k + 1) (Go.Abs.putD fr o.dst v) h' with
          | some (fr', h'', hs) => some (fr', h'', h :: hs)
          | none => none
        | none => none
      | some false => match runD E call ops base l (k + 1) (Go.Abs.putD fr o.dst (.tup [])) h with
          | some (fr', h'', hs) => some (fr', h'', h :: hs)
          | none => none
      | none => none) = some (fr', h', hs) := e
    split at e'
    · split at e'
      · split at e'
        · rw [runD_keep e' h2, putD_ne h1]
        · cases e'
      · rw [runD_keep e' h2, putD_ne h1]
      · cases e'
    · split at e'
      · split at e'
        · rw [runD_keep e' h2, putD_ne h1]
        · cases e'
      · rw [runD_keep e' h2, putD_ne h1]
      · cases e'
    · split at e'
      · split at e'
        · rw [runD_keep e' h2, putD_ne h1]
        · cases e'
      · rw [runD_keep e' h2, putD_ne h1]
      · cases e'
    · split at e'
      · split at e'
        · split at e'
          · rename_i k5
            cases e'
            rw [runD_keep k5 h2, putD_ne h1]
          · cases e'
        · cases e'
      · split at e'
        · rename_i k5
          cases e'
          rw [runD_keep k5 h2, putD_ne h1]
        · cases e'
      · cases e'
theorem region_keep {ops : List Oper} {d : Bool} {i : Nat} {fr fr' : T AV} {h h' : H} (e : regionA E call ops d fr h = some (fr', h')) (hi : i ∉ ops.filterMap (·.dst)) : fr'.get i = fr.get i := by
  cases d with
  | false => exact runOps_keep e hi
  | true =>
    unfold regionA at e
    simp only at e
    split at e
    · cases e
    · split at e
      · cases e
      · rename_i k
        split at e
        · cases e
          exact runD_keep k hi
        · cases e
theorem loop_keep {b : T AV → H → St} {i : Nat} (hb : ∀ fr h e fr' h', b fr h = some (e, fr', h') → fr'.get i = fr.get i) : ∀ (n : Nat) (fr : T AV) (h : H) (e : Ex) (fr' : T AV) (h' : H), loopA b n fr h = some (e, fr', h') → fr'.get i = fr.get i
  | 0, _, _, _, _, _, k => by cases k
  | n + 1, fr, h, e, fr', h', k => by
    rw [loopA_succ] at k
    split at k
    · cases k
    · rename_i fr1 h1 k1; rw [loop_keep hb n _ _ _ _ _ k, hb _ _ _ _ _ k1]
    · rename_i j fr1 h1 k1; cases k; exact hb _ _ _ _ _ k1
    · rename_i fr1 h1 k1; cases k; exact hb _ _ _ _ _ k1
theorem code_keep {i : Nat} : ∀ (c : Code) (fr : T AV) (h : H) (e : Ex) (fr' : T AV) (h' : H), codeA E call F c fr h = some (e, fr', h') → i ∉ asg c → fr'.get i = fr.get i := by
  intro c
  induction c with
  | skip => intro fr h e fr' h' k _; cases k; rfl
  | region id ops d =>
    intro fr h e fr' h' k hi
    rw [code_region] at k
    split at k
    · rename_i k1; cases k; exact region_keep k1 hi
    · cases k
  | seq a b iha ihb =>
    intro fr h e fr' h' k hi
    have hi' : i ∉ asg a ++ asg b := hi
    rw [List.mem_append, not_or] at hi'
    rw [code_seq] at k
    split at k
    · cases k
    · rename_i k1; rw [ihb _ _ _ _ _ k hi'.2, iha _ _ _ _ _ k1 hi'.1]
    · rename_i k1; cases k; exact iha _ _ _ _ _ k1 hi'.1
    · rename_i k1; cases k; exact iha _ _ _ _ _ k1 hi'.1
  | cond c a b iha ihb =>
    intro fr h e fr' h' k hi
    have hi' : i ∉ asg a ++ asg b := hi
    rw [List.mem_append, not_or] at hi'
    rw [code_cond] at k
    split at k
    · exact iha _ _ _ _ _ k hi'.1
    · exact ihb _ _ _ _ _ k hi'.2
    · cases k
  | block id a iha =>
    intro fr h e fr' h' k hi
    rw [code_block] at k
    split at k
    · cases k
    · rename_i k1; cases k; exact iha _ _ _ _ _ k1 hi
    · rename_i k1
      split at k
      · cases k; exact iha _ _ _ _ _ k1 hi
      · cases k; exact iha _ _ _ _ _ k1 hi
    · rename_i k1; cases k; exact iha _ _ _ _ _ k1 hi
  | loop a iha =>
    intro fr h e fr' h' k hi
    exact loop_keep (fun fr h e fr' h' k => iha _ _ _ _ _ k hi) F _ _ _ _ _ k
  | rangeFunc f ps as b _ _ => intro fr h e fr' h' k; cases k
  | exit id => intro fr h e fr' h' k _; cases k; rfl
  | scope b ih => intro fr h e fr' h' k hi; exact ih _ _ _ _ _ k hi
  | label l => intro fr h e fr' h' k _; cases k; rfl
  | goto l => intro fr h e fr' h' k; cases k
  | ret => intro fr h e fr' h' k _; cases k; rfl
  | refuse s => intro fr h e fr' h' k; cases k

theorem dropA_get : ∀ (l : List Nat) (f : T SV) (i : Nat), (dropA l f).get i = if i ∈ l then none else f.get i
  | [], f, i => by simp [dropA]
  | a :: l, f, i => by
    show (T.set none (dropA l f) a).get i = _
    rw [get_set, dropA_get l f i]
    by_cases h : i = a
    · subst h; simp
    · simp [h]
theorem drop_sub {l : List Nat} {f : T SV} {fr fr' : T AV} (hs : Sub f fr) (hk : ∀ i, i ∉ l → fr'.get i = fr.get i) : Sub (dropA l f) fr' := fun i s hi => by
  rw [dropA_get] at hi
  split at hi
  · cases hi
  · rename_i h; rw [hk i h]; exact hs i s hi

theorem fit_av {kd : Kd} {s : SV} {a : AV} (h : fitV kd s = some a) : a = s.av := by
  unfold fitV at h
  split at h <;> first | (cases h; rfl) | cases h | skip
  split at h
  · rename_i hk; cases h; rw [of_decide_eq_true hk]; rfl
  · cases h
/-- slots that hold these values, of these kinds -/
def Hold (fr : T AV) : Pat → List AV → Prop
  | [], l => l = []
  | p :: pat, l => ∃ a r s, l = a :: r ∧ fitV p.2 s = some a ∧ fr.get p.1 = some a ∧ Hold fr pat r
theorem vals_hold {f : T SV} {fr : T AV} (hs : Sub f fr) : ∀ {pat : Pat} {vs : List AV}, valsW f pat = some vs → Hold fr pat vs
  | [], _, h => by cases h; rfl
  | p :: pat, vs, h => by
    have h' : (match f.get p.1 with
      | some s => match fitV p.2 s with
        | some a => match valsW f pat with
          | some l => some (a :: l)
          | none => none
        | none => none
      | none => none) = some vs := h
    split at h'
    · rename_i s hg
      split at h'
      · rename_i a hf
        split at h'
        · rename_i l hl
          cases h'
          exact ⟨a, l, s, rfl, hf, by rw [hs _ _ hg, fit_av hf], vals_hold hs hl⟩
        · cases h'
      · cases h'
    · cases h'
theorem all_hold {fr : T AV} : ∀ {pat : Pat} {vs : List AV} {K : T SV → List AV → Prop} {f : T SV}, Hold fr pat vs → Sub f fr → allP pat K f → ∃ f', Sub f' fr ∧ K f' vs
  | [], vs, K, f, hv, hs, h => by
    have : vs = [] := hv
    subst this; exact ⟨f, hs, h⟩
  | p :: pat, vs, K, f, hv, hs, h => by
    obtain ⟨a, r, s, rfl, hf, hg, hv⟩ := hv
    obtain ⟨i, kd⟩ := p
    have sub : ∀ u : SV, u.av = a → Sub (f.put i u) fr := fun u hu j s' hj => by
      rw [T.get_put] at hj
      split at hj
      · rename_i e; cases hj; subst e; rw [hu]; exact hg
      · exact hs j s' hj
    cases kd with
    | int k =>
      cases s <;> simp only [fitV] at hf <;> first | (cases hf; done) | skip
      split at hf
      · rename_i hk; cases hf; exact all_hold (K := fun f l => K f (_ :: l)) hv (sub (.int k _) rfl) (h _)
      · cases hf
    | bool =>
      cases s <;> simp only [fitV] at hf <;> first | (cases hf; done) | skip
      · cases hf; exact all_hold (K := fun f l => K f (_ :: l)) hv (sub (.bool _) rfl) (h _)
      · cases hf; exact all_hold (K := fun f l => K f (_ :: l)) hv (sub (.bool _) rfl) (h _)
    | str =>
      cases s <;> simp only [fitV] at hf <;> first | (cases hf; done) | skip
      cases hf; exact all_hold (K := fun f l => K f (_ :: l)) hv (sub (.str _) rfl) (h _)
    | ptr =>
      cases s <;> simp only [fitV] at hf <;> first | (cases hf; done) | skip
      cases hf; exact all_hold (K := fun f l => K f (_ :: l)) hv (sub (.ptr _ _) rfl) (h _ _)
    | agg =>
      cases s <;> simp only [fitV] at hf <;> first | (cases hf; done) | skip
      cases hf; exact all_hold (K := fun f l => K f (_ :: l)) hv (sub (.agg _) rfl) (h _)
    | any => exact all_hold (K := fun f l => K f (_ :: l)) hv (sub (.v a) rfl) (h a)

/-- WHAT THE RECKONING OF WHOLE FUNCTIONS SAYS HOLDS -/
theorem wpN_sound (ann jn : List (Nat × Pat)) : ∀ (c : Code) {Q : Ex → T SV → H → Prop} {f : T SV} {h : H}, wpN (stdN E call F) E ann jn c Q f h → EvX E call F c f h Q := by
  intro c
  induction c with
  | skip => intro Q f h hh fr hs; exact ⟨.norm, fr, h, rfl, f, hs, hh⟩
  | region id ops draw =>
    intro Q f h hh fr hs
    have hh' : regionW (std E call F) E ops.toList draw (fun f h => Q .norm f h) f h := hh
    obtain ⟨fr', h', f', e, k1, k2⟩ := region_soundW hs hh'
    exact ⟨.norm, fr', h', by rw [code_region, e], f', k1, k2⟩
  | seq a b iha ihb =>
    intro Q f h hh fr hs
    have hh' : (match annOf (fstR b) jn with
      | none => wpN (stdN E call F) E ann jn a (seqQ (wpN (stdN E call F) E ann jn b) Q) f h
      | some pat => meetN (fun I => wpN (stdN E call F) E ann jn a (meetQ pat I Q) f h) (fun I => allP pat (fun f l => ∀ h, I l h → wpN (stdN E call F) E ann jn b Q f h) (dropA (asg a) f)) ⟨⟩) := hh
    split at hh'
    · obtain ⟨e, fr1, h1, k1, f1, k2, k3⟩ := iha hh' fr hs
      cases e with
      | norm =>
        obtain ⟨e2, fr2, h2, k5, k6⟩ := ihb k3 fr1 k2
        exact ⟨e2, fr2, h2, by rw [code_seq, k1]; exact k5, k6⟩
      | exit j => exact ⟨.exit j, fr1, h1, by rw [code_seq, k1], f1, k2, k3⟩
      | ret => exact ⟨.ret, fr1, h1, by rw [code_seq, k1], f1, k2, k3⟩
    · rename_i pat _
      obtain ⟨I, hA, hB⟩ := hh'
      obtain ⟨e, fr1, h1, k1, f1, k2, k3⟩ := iha hA fr hs
      cases e with
      | norm =>
        have k3' : (match valsW f1 pat with
          | some vs => I vs h1
          | none => False) := k3
        split at k3'
        · rename_i vs hv
          obtain ⟨f2, s2, hB2⟩ := all_hold (vals_hold k2 hv) (drop_sub hs fun i hi => code_keep a _ _ _ _ _ k1 hi) hB
          obtain ⟨e2, fr2, h2, k5, k6⟩ := ihb (hB2 h1 k3') fr1 s2
          exact ⟨e2, fr2, h2, by rw [code_seq, k1]; exact k5, k6⟩
        · exact k3'.elim
      | exit j => exact ⟨.exit j, fr1, h1, by rw [code_seq, k1], f1, k2, k3⟩
      | ret => exact ⟨.ret, fr1, h1, by rw [code_seq, k1], f1, k2, k3⟩
  | cond c a b iha ihb =>
    intro Q f h hh fr hs
    have hh' : lk f c fun s => match s with
      | .lit true => wpN (stdN E call F) E ann jn a Q f h
      | .lit false => wpN (stdN E call F) E ann jn b Q f h
      | .bool x => match (generalizing := false) c with
        | .tmp t => (std E call F).cond x (wpN (stdN E call F) E ann jn a Q (f.put t (.lit true)) h) (wpN (stdN E call F) E ann jn b Q (f.put t (.lit false)) h)
        | _ => (std E call F).cond x (wpN (stdN E call F) E ann jn a Q f h) (wpN (stdN E call F) E ann jn b Q f h)
      | _ => False := hh
    have hl : ∃ s, look f c = some s := by
      unfold lk at hh'
      split at hh'
      · rename_i s e; exact ⟨s, e⟩
      · exact hh'.elim
    obtain ⟨s, hl⟩ := hl
    have e := look_sound hs hl
    unfold lk at hh'
    rw [hl] at hh'
    rw [code_cond, e]
    cases s with
    | lit x =>
      cases x with
      | true =>
        obtain ⟨e2, fr2, h2, k5, k6⟩ := iha hh' fr hs
        exact ⟨e2, fr2, h2, k5, k6⟩
      | false =>
        obtain ⟨e2, fr2, h2, k5, k6⟩ := ihb hh' fr hs
        exact ⟨e2, fr2, h2, k5, k6⟩
    | bool x =>
      cases c with
      | tmp t =>
        obtain ⟨k1, k2⟩ := hh'
        cases x with
        | true =>
          obtain ⟨e2, fr2, h2, k5, k6⟩ := iha (k1 rfl) fr (hs.same t _ (.lit true) hl rfl)
          exact ⟨e2, fr2, h2, k5, k6⟩
        | false =>
          obtain ⟨e2, fr2, h2, k5, k6⟩ := ihb (k2 rfl) fr (hs.same t _ (.lit false) hl rfl)
          exact ⟨e2, fr2, h2, k5, k6⟩
      | _ =>
        obtain ⟨k1, k2⟩ := hh'
        cases x with
        | true =>
          obtain ⟨e2, fr2, h2, k5, k6⟩ := iha (k1 rfl) fr hs
          exact ⟨e2, fr2, h2, k5, k6⟩
        | false =>
          obtain ⟨e2, fr2, h2, k5, k6⟩ := ihb (k2 rfl) fr hs
          exact ⟨e2, fr2, h2, k5, k6⟩
    | _ => exact hh'.elim
  | block id a iha =>
    intro Q f h hh fr hs
    have hh' : wpN (stdN E call F) E ann jn a (blockQ id Q) f h := hh
    obtain ⟨e, fr1, h1, k1, f1, k2, k3⟩ := iha hh' fr hs
    rw [code_block, k1]
    cases e with
    | norm => exact ⟨.norm, fr1, h1, rfl, f1, k2, k3⟩
    | exit j =>
      change (match Nat.beq j id with | true => Q .norm f1 h1 | false => Q (.exit j) f1 h1) at k3
      split at k3
      · rename_i hj; exact ⟨.norm, fr1, h1, by simp only [hj], f1, k2, k3⟩
      · rename_i hj; exact ⟨.exit j, fr1, h1, by simp only [hj], f1, k2, k3⟩
    | ret => exact ⟨.ret, fr1, h1, rfl, f1, k2, k3⟩
  | loop c ih =>
    intro Q f h hh fr hs
    have hh' : (match annOf (fstR c) ann with
      | none => False
      | some pat => match valsW f pat with
        | none => False
        | some vs => invN (fun I => fstN F I vs h) (fun I => allP pat (fun f l => ∀ m h, I l m h → wpN (stdN E call F) E ann jn c (loopQ (stdN E call F) pat I m Q) f h) (dropA (asg c) f)) ⟨⟩) := hh
    split at hh'
    · exact hh'.elim
    · rename_i pat _
      split at hh'
      · exact hh'.elim
      · rename_i vs hv
        obtain ⟨I, ⟨m, hm, hI⟩, hB⟩ := hh'
        show ∃ e fr' h', loopA (codeA E call F c) F fr h = some (e, fr', h') ∧ ∃ f', Sub f' fr' ∧ Q e f' h'
        have key : ∀ (n m : Nat) (vs : List AV) (fr : T AV) (h : H), m < n → I vs m h → Hold fr pat vs → Sub (dropA (asg c) f) fr → ∃ e fr' h', loopA (codeA E call F c) n fr h = some (e, fr', h') ∧ ∃ f', Sub f' fr' ∧ Q e f' h' := by
          intro n
          induction n with
          | zero => intro m vs fr h hm; omega
          | succ n ihn =>
            intro m vs fr h hm hi hv hd
            obtain ⟨f2, s2, hB2⟩ := all_hold hv hd hB
            obtain ⟨e, fr1, h1, k1, f1, k2, k3⟩ := ih (hB2 m h hi) fr s2
            rw [loopA_succ, k1]
            cases e with
            | norm =>
              have k3' : (match valsW f1 pat with
                | some vs => nxtN I m vs h1
                | none => False) := k3
              split at k3'
              · rename_i vs1 hv1
                obtain ⟨m', q1, q2⟩ := k3'
                refine ihn m' vs1 fr1 h1 (by omega) q2 (vals_hold k2 hv1) fun i s hi => ?_
                have := hd i s hi
                rw [code_keep c _ _ _ _ _ k1 ?_]
                · exact this
                · intro e
                  rw [dropA_get, if_pos e] at hi
                  cases hi
              · exact k3'.elim
            | exit j => exact ⟨.exit j, fr1, h1, rfl, f1, k2, k3⟩
            | ret => exact ⟨.ret, fr1, h1, rfl, f1, k2, k3⟩
        exact key F m vs fr h hm hI (vals_hold hs hv) (drop_sub hs fun _ _ => rfl)
  | rangeFunc f ps as b _ _ => intro Q f h hh; exact hh.elim
  | exit id => intro Q f h hh fr hs; exact ⟨.exit id, fr, h, rfl, f, hs, hh⟩
  | scope b ih =>
    intro Q f h hh fr hs
    have hh' : wpN (stdN E call F) E ann jn b Q f h := hh
    obtain ⟨e2, fr2, h2, k5, k6⟩ := ih hh' fr hs
    exact ⟨e2, fr2, h2, k5, k6⟩
  | label l => intro Q f h hh fr hs; exact ⟨.norm, fr, h, rfl, f, hs, hh⟩
  | goto l => intro Q f h hh; exact hh.elim
  | ret => intro Q f h hh fr hs; exact ⟨.ret, fr, h, rfl, f, hs, hh⟩
  | refuse s => intro Q f h hh; exact hh.elim

/-- a call, by its whole tree -/
theorem spec_trN {S : FuncId → Option AV} {n : Nat} {f : FuncId} {fn : Func} {ann jn : List (Nat × Pat)} (ss : List SV) {h : H} {K : AV → H → Prop} {T : Prop} (hS : S f = none) (hf : E.ft.get f = some fn) (hok : fnOk fn ss.length = true)
    (ht : wpN (stdN E (callX E S n) n) E ann jn (bodyOf fn) (endQ (std E (callX E S n) n) E fn.results.toList K) (initS ss 0 .nil) h = T) (k : T) : Spec E S (n + 1) f (ss.map SV.av) h K :=
  spec_evb ss hS hf hok (wpN_sound ann jn _ (by rw [ht]; exact k))

theorem stdN_inv (A B : (List AV → Nat → H → Prop) → Prop) : (stdN E call F).inv A B = invN A B ⟨⟩ := rfl
theorem stdN_fst (I : List AV → Nat → H → Prop) (l : List AV) (h : H) : (stdN E call F).fst I l h = fstN F I l h := rfl
theorem stdN_nxt (I : List AV → Nat → H → Prop) (m : Nat) (l : List AV) (h : H) : (stdN E call F).nxt I m l h = nxtN I m l h := rfl
theorem stdN_meet (A B : (List AV → H → Prop) → Prop) : (stdN E call F).meet A B = meetN A B ⟨⟩ := rfl
theorem stdN_pr : (stdN E call F).toPr = std E call F := rfl
attribute [go_sem ↓] stdN_inv stdN_fst stdN_nxt stdN_meet stdN_pr
end
end
end Go.Abs.W
