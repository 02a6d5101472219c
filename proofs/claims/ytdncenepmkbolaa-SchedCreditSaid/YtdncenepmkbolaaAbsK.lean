/-
  FROM THE ABSTRACT MACHINE TO A ROW: the row's last part; runs over values from .. to, with cases.
-/
import Derived.Test.YtdncenepmkbolaaAbsJ
namespace Go.Abs
open Go Go.ChangeShapes Go.WideShapes Go.ChangeAt Go.RowKit

section
variable {H : Type} {enc : TypeId × Value → H} {P : Program}

theorem below_trodAll (hl : laidOutB P = true) {W W' : World} (hb : Below W.heap.size W W') {sp : Nat → Bool} (hsp : ∀ k, k < W.heap.size → sp k = true) : ∀ {ts : List TypeId} {vs : List Value} {ds : List (DataW H)} {ps : List MemPlace},
    (∀ t ∈ ts, P.readableRec t = true ∧ t < P.types.size) → DataW.TrodAll enc P W 0 (fun _ => true) true ts vs ds ps → DataW.TrodAll enc P W' 0 sp true ts vs ds ps
  | [], [], [], _, _, h => h
  | t :: ts, v :: vs, d :: ds, ps, hr, h => by
    have hlt := DataW.TrodAll.lt h
    obtain ⟨p, q, h1, h2, e⟩ := h
    subst e
    have ht := hr t (by simp)
    exact ⟨p, q, WideElems.Trod_stays hl ht.1 ht.2 h1 (fun x hx => hb.same (hlt x (by simp [hx]))) (fun x hx => hsp _ (hlt x (by simp [hx]))), below_trodAll hl hb hsp (fun t ht => hr t (by simp [ht])) h2, rfl⟩
  | [], [], _ :: _, _, _, h => h.elim
  | [], _ :: _, _, _, _, h => h.elim
  | _ :: _, [], _, _, _, h => h.elim
  | _ :: _, _ :: _, [], _, _, h => h.elim

theorem frozen_below {W W' : World} (hb : Below W.heap.size W W') {a : Addr} (ha : a.block < W.heap.size) : W'.frozen? a = W.frozen? a := by
  unfold World.frozen?
  rw [hb.block _ ha]

theorem kept_below {W W' : World} (hb : Below W.heap.size W W') (may : MemPlace → Prop) : W.keptBut W' may := by
  refine ⟨hb.os, hb.output, fun i hi => ?_⟩
  rw [hb.block i hi]
  cases h : W.heap[i]? with
  | none => trivial
  | some o => cases o with
    | cells c t fr => exact ⟨rfl, rfl, rfl, fun _ _ => rfl⟩
    | map es clock => exact .inr ⟨rfl, rfl⟩
    | _ => rfl

theorem post_below {f : Func} {s : ChangeSpec} {apart fresh handsOn again : Bool} {W W' : World} {args : Array Value} {v : Value} {ds gs : List (DataW H)} {before : List MemPlace}
    (hl : laidOutB P = true) (hs : s.vars = []) (hp : ∀ t ∈ f.params.toList, P.readableRec t = true ∧ t < P.types.size)
    (hW : DataW.Whole enc P f.params.toList s.vars apart W args.toList ds gs before)
    (hres : ∀ (b : Nat) (sp : Nat → Bool) (hd : Bool), DataW.TrodAll enc P W' b sp hd f.resultTypes.toList (v.resultList f.resultTypes.size) (s.fn H (ds ++ gs)).results [])
    (hargs : (s.fn H (ds ++ gs)).args = ds) (hvars : (s.fn H (ds ++ gs)).vars = [])
    (hb : Below W.heap.size W W')
    (hok : ∀ (j : Nat) (t : TypeId) (r : Value), f.resultTypes[j]? = some t → (v.resultList f.resultTypes.size)[j]? = some r → Value.okWide P W' .any 0 t r) :
    s.post enc P f apart fresh handsOn again W args v W' := by
  have hlt := fun p hp => hW.lt p hp
  obtain ⟨p, q, hA, hV, e, hz, hn⟩ := hW
  have hW0 : DataW.Whole enc P f.params.toList s.vars apart W args.toList ds gs before := ⟨p, q, hA, hV, e, hz, hn⟩
  rw [hs] at hV
  have hg : gs = [] ∧ q = [] := by
    cases gs with
    | nil => exact ⟨rfl, hV⟩
    | cons _ _ => exact hV.elim
  obtain ⟨rfl, rfl⟩ := hg
  have e' : before = p := by rw [e]; simp
  subst e'
  have hargs' : ∀ sp : Nat → Bool, (∀ k, k < W.heap.size → sp k = true) → DataW.TrodAll enc P W' 0 sp true f.params.toList args.toList (s.fn H (ds ++ [])).args before := fun sp hsp => by
    rw [hargs]
    exact below_trodAll hl hb hsp hp hA
  have hvars' : ∀ sp : Nat → Bool, DataW.TrodVars enc P W' sp s.vars (s.fn H (ds ++ [])).vars [] := fun sp => by
    rw [hvars, hs]; rfl
  refine ⟨ds, [], before, [], before, [], hW0, hres _ _ _, hargs' _ (fun k hk => by simpa using hk), hvars' _, kept_below hb _, fun _ => ?_⟩
  refine ⟨hok, _, _, ([] ++ before) ++ [], ⟨[] ++ before, [], trodAll_append (hargs' _ (fun _ _ => rfl)) (hres _ _ _), hvars' _, rfl, ?_, ?_⟩, ?_⟩
  · intro b off hp
    have hp' : MemPlace.cell b off ∈ before := by simpa using hp
    have hlt' := hlt _ hp'
    rw [frozen_below hb hlt']
    exact hz b off hp'
  · intro ha
    simpa using hn ha
  · intro p hp _
    simpa using hp

/-- a law's specification: true; the arguments read as before -/
structure LawSpec (s : ChangeSpec) (n : Nat) : Prop where
  vars : s.vars = []
  fn : ∀ (H : Type) (ds : List (DataW H)), ds.length = n → s.fn H ds = { results := [.lit (.bool true)], args := ds }

theorem lawFn1 {s : ChangeSpec} (h : ∀ (H : Type) (a : DataW H), s.fn H [a] = { results := [.lit (.bool true)], args := [a] }) (H : Type) (ds : List (DataW H)) (hl : ds.length = 1) :
    s.fn H ds = { results := [.lit (.bool true)], args := ds } :=
  match ds, hl with
  | [a], _ => h H a
theorem lawFn2 {s : ChangeSpec} (h : ∀ (H : Type) (a b : DataW H), s.fn H [a, b] = { results := [.lit (.bool true)], args := [a, b] }) (H : Type) (ds : List (DataW H)) (hl : ds.length = 2) :
    s.fn H ds = { results := [.lit (.bool true)], args := ds } :=
  match ds, hl with
  | [a, b], _ => h H a b
theorem lawFn3 {s : ChangeSpec} (h : ∀ (H : Type) (a b c : DataW H), s.fn H [a, b, c] = { results := [.lit (.bool true)], args := [a, b, c] }) (H : Type) (ds : List (DataW H)) (hl : ds.length = 3) :
    s.fn H ds = { results := [.lit (.bool true)], args := ds } :=
  match ds, hl with
  | [a, b, c], _ => h H a b c

theorem trodAll_len {w : World} {base : Nat} {sp : Nat → Bool} {hd : Bool} : ∀ {ts : List TypeId} {vs : List Value} {ds : List (DataW H)} {ps : List MemPlace}, DataW.TrodAll enc P w base sp hd ts vs ds ps → ds.length = ts.length ∧ vs.length = ts.length
  | [], [], [], _, _ => ⟨rfl, rfl⟩
  | _ :: _, _ :: _, _ :: _, _, h => by
    obtain ⟨_, _, _, h2, _⟩ := h
    have := trodAll_len h2
    simp [this.1, this.2]
  | [], [], _ :: _, _, h => h.elim
  | [], _ :: _, _, _, h => h.elim
  | _ :: _, [], _, _, h => h.elim
  | _ :: _, _ :: _, [], _, h => h.elim

/-- the closed facts of a law's function -/
def lawFacts (P : Program) (f : Func) : Bool :=
  laidOutB P && (f.params.toList.all fun t => P.readableRec t && Nat.blt t P.types.size) &&
    match f.resultTypes.toList with
    | [t] => match P.underlying t with
      | some .bool => true
      | _ => false
    | _ => false

theorem law_lifted {C : Checked} {os : Os} {f : FuncId} {fn : Func} {s : ChangeSpec} {conds : List PathCond} {apart fresh handsOn again : Bool}
    (own : ownKnob C.prog.godebug = none) (started : os.Started) (noInit : C.prog.inits.idxOf? f = none) (hfn : C.prog.funcs[f]? = some fn)
    (witness : ∃ (w : World) (tape : Tape) (i : Input), w.os = os ∧ (w.forCall tape i).Shaped C.prog ∧ i.vars = [] ∧ Input.okWide C.prog (w.forCall tape i) .any w.heap.size f i ∧
      s.pre6 enc C.prog fn conds apart (w.forCall tape i).memory i.args ∧ ({} : Assume).holds C.prog (lone (Frame.enter C.prog f i.args .normal) [] (w.forCall tape i)))
    (hs : LawSpec s fn.params.toList.length) (hfacts : lawFacts C.prog fn = true)
    (walk : ∀ (W : World) (base : Nat) (args : Array Value) (ds : List (DataW H)) (ps : List MemPlace),
      (∀ (j : Nat) t v, fn.params[j]? = some t → args[j]? = some v → Value.okWide C.prog W .any base t v) →
      DataW.TrodAll enc C.prog W 0 (fun _ => true) true fn.params.toList args.toList ds ps →
      Calls C.prog f args W fun e W' => e = .returned (.bool true) ∧ Below W.heap.size W W') :
    ReturnsInHanded {} C os f .any (s.pre6 enc C.prog fn conds apart) (s.post enc C.prog fn apart fresh handsOn again) := by
  simp only [lawFacts, Bool.and_eq_true, List.all_eq_true] at hfacts
  obtain ⟨⟨hl, hp⟩, hr⟩ := hfacts
  refine returnsInHanded_of_change own started noInit hfn witness ?_
  intro W base args ds gs before hval hW _ _
  have hW0 := hW
  obtain ⟨p, q, hA, hV, e, hz, hn⟩ := hW
  refine (walk W base args ds p hval hA).mono fun e W' ⟨he, hb⟩ => ?_
  subst he
  have hlen := (trodAll_len hA).1
  rw [hs.vars] at hV
  have hg : gs = [] := by
    cases gs with
    | nil => rfl
    | cons _ _ => exact hV.elim
  subst hg
  have hfn' : s.fn H (ds ++ []) = { results := [.lit (.bool true)], args := ds } := by rw [List.append_nil]; exact hs.fn H ds hlen
  split at hr
  · rename_i t ht
    split at hr
    · rename_i hu
      have hsz : fn.resultTypes = #[t] := by apply Array.ext'; simpa using ht
      refine ⟨_, rfl, post_below hl hs.vars (fun t ht => by have := hp t ht; exact ⟨this.1, Nat.le_of_ble_eq_true this.2⟩) hW0 ?_ (by rw [hfn']) (by rw [hfn']) hb ?_⟩
      · intro b sp hd
        rw [hfn', hsz]
        exact trodAll_mk1 (shut_bool hu _)
      · exact ok_one hsz rfl (okWide_bool_mk hu _)
    · cases hr
  · cases hr
end

section
variable {P : Program}

/-- nothing on the abstract heap: nothing of the caller's is touched -/
theorem below_of_post {ρ ρ' : Pl} {h h' : Go.Abs.H} {w w' : World} (hp : Post ρ h w ρ' h' w') (ho : ∀ c, ¬ Own ρ h c) : Below w.heap.size w w' :=
  ⟨hp.os, hp.tape, hp.output, hp.size, fun k hk => hp.keep k hk (ho k)⟩

def H0 : Go.Abs.H := ⟨.nil, 0⟩
def Pl.none : Pl := fun _ => Option.none
theorem R.empty (w : World) : R Pl.none H0 w :=
  ⟨fun _ _ _ h => (by cases h), fun _ _ _ _ _ _ _ h => (by cases h), fun _ _ => ⟨rfl, rfl⟩, fun _ _ h => (by cases h), fun _ _ _ _ h => (by cases h)⟩

/-! cases on values from .. to -/
inductive Cases where
  | run
  | cut (i : Nat) (c : Int) (l r : Cases)

def Top.below (c : Int) : Top → Top
  | .int k a b => .int k a (if c < b then c else b)
  | .str a b => .str a (match c with | .ofNat n => if n < b then n else b | .negSucc _ => b)
  | .sl a b => .sl a (match c with | .ofNat n => if n < b then n else b | .negSucc _ => b)
  | .bool => .bool
  | .emp => .emp
def Top.above (c : Int) : Top → Top
  | .int k a b => .int k (if a ≤ c then c + 1 else a) b
  | .str a b => .str (match c with | .ofNat n => if a ≤ n then n + 1 else a | .negSucc _ => a) b
  | .sl a b => .sl (match c with | .ofNat n => if a ≤ n then n + 1 else a | .negSucc _ => a) b
  | .bool => .bool
  | .emp => .emp

theorem Top.cut {q : Top} {v : Value} (c : Int) (h : q.has v) : (q.below c).has v ∨ (q.above c).has v := by
  cases q with
  | int k a b =>
    obtain ⟨n, rfl, h1, h2⟩ := h
    by_cases hn : n ≤ c
    · left; exact ⟨n, rfl, h1, by split <;> omega⟩
    · right; exact ⟨n, rfl, by split <;> omega, h2⟩
  | str a b =>
    obtain ⟨s, rfl, h1, h2⟩ := h
    cases c with
    | negSucc _ => left; exact ⟨s, rfl, h1, h2⟩
    | ofNat m =>
      by_cases hn : s.size ≤ m
      · left; exact ⟨s, rfl, h1, by show s.size ≤ if m < b then m else b; split <;> omega⟩
      · right; exact ⟨s, rfl, by show (if a ≤ m then m + 1 else a) ≤ s.size; split <;> omega, h2⟩
  | sl a b =>
    cases c with
    | negSucc _ => left; exact h
    | ofNat m =>
      obtain ⟨rfl, rfl⟩ | ⟨x, n, c, rfl, h1, h2⟩ := h
      · left; exact .inl ⟨rfl, rfl⟩
      · by_cases hn : n ≤ m
        · left; exact .inr ⟨x, n, c, rfl, h1, by show n ≤ if m < b then m else b; split <;> omega⟩
        · right; exact .inr ⟨x, n, c, rfl, by show (if a ≤ m then m + 1 else a) ≤ n; split <;> omega, h2⟩
  | bool => left; exact h
  | emp => left; exact h

def mapAt (f : Top → Top) : Nat → List Top → List Top
  | _, [] => []
  | 0, q :: l => f q :: l
  | n + 1, q :: l => q :: mapAt f n l

/-- the arguments, out of the cells of all of them -/
def argsOf : List (Option Nat) → List Top → List AV
  | [], _ => []
  | none :: r, q :: l => .top q :: argsOf r l
  | none :: _, [] => []
  | some n :: r, l => .agg ((l.take n).map AV.top) :: argsOf r (l.drop n)

/-- in each case the call hands back true -/
def trueIn (E : Env) (n : Nat) (f : FuncId) (sh : List (Option Nat)) : Cases → List Top → Prop
  | .run, l => ∃ h', callA E n f (argsOf sh l) H0 = some (.bool true, h')
  | .cut i c a b, l => trueIn E n f sh a (mapAt (Top.below c) i l) ∧ trueIn E n f sh b (mapAt (Top.above c) i l)

noncomputable def okTrue (r : Option (AV × Go.Abs.H)) : Bool :=
  match r with
  | some (.bool b, _) => b
  | _ => false

noncomputable def trueInB (E : Env) (n : Nat) (f : FuncId) (sh : List (Option Nat)) : Cases → List Top → Bool
  | .run, l => okTrue (callA E n f (argsOf sh l) H0)
  | .cut i c a b, l => trueInB E n f sh a (mapAt (Top.below c) i l) && trueInB E n f sh b (mapAt (Top.above c) i l)

theorem trueIn_of_B {E : Env} {n : Nat} {f : FuncId} {sh : List (Option Nat)} : ∀ (k : Cases) (l : List Top), trueInB E n f sh k l = true → trueIn E n f sh k l
  | .run, l, h => by
    unfold trueInB okTrue at h
    split at h
    · rename_i b h' e
      subst h
      exact ⟨h', e⟩
    · cases h
  | .cut i c a b, l, h => by
    simp only [trueInB, Bool.and_eq_true] at h
    exact ⟨trueIn_of_B a _ h.1, trueIn_of_B b _ h.2⟩

theorem VL.cut {ρ : Pl} (c : Int) : ∀ (i : Nat) {l : List Top} {vs : List Value}, VL ρ (l.map AV.top) vs → VL ρ ((mapAt (Top.below c) i l).map AV.top) vs ∨ VL ρ ((mapAt (Top.above c) i l).map AV.top) vs
  | i, [], _, h => .inl (by cases i <;> exact h)
  | 0, q :: l, vs, h => by
    obtain ⟨v, vs', h1, h2, rfl⟩ := h
    rcases Top.cut c h1 with h | h
    · exact .inl ⟨v, vs', h, h2, rfl⟩
    · exact .inr ⟨v, vs', h, h2, rfl⟩
  | i + 1, q :: l, vs, h => by
    obtain ⟨v, vs', h1, h2, rfl⟩ := h
    rcases VL.cut c i h2 with h | h
    · exact .inl ⟨v, vs', h1, h, rfl⟩
    · exact .inr ⟨v, vs', h1, h, rfl⟩

theorem trueIn_run {E : Env} {n : Nat} {f : FuncId} {sh : List (Option Nat)} {vs : List Value} {ρ : Pl} : ∀ (k : Cases) (l : List Top), trueIn E n f sh k l → VL ρ (l.map AV.top) vs →
    ∃ l h', VL ρ (l.map AV.top) vs ∧ callA E n f (argsOf sh l) H0 = some (.bool true, h')
  | .run, l, ⟨h', h⟩, hv => ⟨l, h', hv, h⟩
  | .cut i c a b, l, h, hv => by
    rcases VL.cut c i hv with hv | hv
    · exact trueIn_run a _ h.1 hv
    · exact trueIn_run b _ h.2 hv

/-- zero values: a start that fits -/
def zerosOf (P : Program) (ts : Array TypeId) : Array Value := ts.map fun t => ((P.info? t).bind (·.zero)).getD (.bool false)

/-- how a function's parameters are laid in cells -/
def shOf (P : Program) : List TypeId → List (Option Nat)
  | [] => []
  | t :: r => (match P.underlying t with
    | some (.struct _) | some (.array _ _) => some (P.cellsOf t)
    | _ => none) :: shOf P r

def topsOf (P : Program) : List TypeId → Option (List Top)
  | [] => some []
  | t :: r => match topOf P 9 t, topsOf P r with
    | some q, some l => match Nat.beq (P.cellsOf t) q.length with
      | true => some (q ++ l)
      | false => none
    | _, _ => none

theorem takeVL {ρ : Pl} : ∀ {a : List AV} {b : List AV} {l : List Value}, VL ρ (a ++ b) l → VL ρ a (l.take a.length) ∧ VL ρ b (l.drop a.length)
  | [], b, l, h => ⟨rfl, h⟩
  | x :: a, b, l, h => by
    obtain ⟨v, l', h1, h2, rfl⟩ := h
    obtain ⟨k1, k2⟩ := takeVL h2
    exact ⟨⟨v, _, h1, k1, rfl⟩, k2⟩

/-- the arguments' cells, one behind the other; and back -/
theorem args_tops {H : Type} {enc : TypeId × Value → H} {w W : World} {base : Nat} {ρ : Pl} : ∀ {ts : List TypeId} {vs : List Value} {ds : List (DataW H)} {ps : List MemPlace} {l : List Top},
    (∀ (j : Nat) t v, ts[j]? = some t → vs[j]? = some v → Value.okWide P W .any base t v) →
    DataW.TrodAll enc P w 0 (fun _ => true) true ts vs ds ps → topsOf P ts = some l →
    ∃ cs, VL ρ (l.map AV.top) cs ∧ ∀ l' : List Top, VL ρ (l'.map AV.top) cs → VX ρ (argsOf (shOf P ts) l') vs
  | [], [], _, _, l, _, _, h => by cases h; exact ⟨[], rfl, fun l' _ => rfl⟩
  | t :: ts, v :: vs, [], _, _, _, h, _ => h.elim
  | t :: ts, v :: vs, d :: ds, ps, l, hok, h, hl => by
    obtain ⟨p, q, ⟨fuel, h1⟩, h2, _⟩ := h
    simp only [topsOf] at hl
    split at hl
    · rename_i q0 l0 hq hl0
      split at hl
      · rename_i hn
        cases hl
        have hn' := Nat.eq_of_beq_eq_true hn
        have k1 := trod_tops (ρ := ρ) _ _ _ _ _ _ h1 hq
        obtain ⟨cs, k2, k3⟩ := args_tops (ρ := ρ) (fun j t v ht hv => hok (j + 1) t v (by simpa using ht) (by simpa using hv)) h2 hl0
        refine ⟨v.cells.toList ++ cs, by rw [List.map_append]; exact VL.append k1 k2, fun l' hl' => ?_⟩
        have hv := hok 0 t v rfl rfl
        have hcl : v.cells.toList.length = P.cellsOf t := by rw [k1.length]; simp [hn']
        have hcut : VL ρ (((l'.take (P.cellsOf t)).map AV.top)) v.cells.toList ∧ VL ρ ((l'.drop (P.cellsOf t)).map AV.top) cs := by
          have e : l'.map AV.top = (l'.take (P.cellsOf t)).map AV.top ++ (l'.drop (P.cellsOf t)).map AV.top := by rw [← List.map_append, List.take_append_drop]
          rw [e] at hl'
          have hlen : ((l'.take (P.cellsOf t)).map AV.top).length = v.cells.toList.length := by
            have := hl'.length
            simp at this
            simp [hcl]
            simp at hcl
            omega
          obtain ⟨a1, a2⟩ := takeVL hl'
          rw [hlen] at a1 a2
          simp at a1 a2
          exact ⟨by simpa using a1, by simpa using a2⟩
        unfold Value.okWide at hv
        have one : v.cells.toList = [v] → P.cellsOf t = 1 → VX ρ (argsOf (none :: shOf P ts) l') (v :: vs) := fun hc1 hc2 => by
          rw [hc1, hc2] at hcut
          obtain ⟨b1, b2⟩ := hcut
          cases l' with
          | nil => obtain h := b1.length; simp at h
          | cons q l' =>
            obtain ⟨v', _, c1, c2, c3⟩ := b1
            cases c3
            exact ⟨v, vs, c1, k3 _ b2, rfl⟩
        split at hv
        · rename_i fs hu
          obtain ⟨ar, rfl, _, _⟩ := hv
          simp only [shOf, hu, argsOf]
          exact ⟨_, _, ⟨ar.toList, hcut.1, rfl⟩, k3 _ hcut.2, rfl⟩
        · rename_i n e hu
          obtain ⟨ar, rfl, _, _⟩ := hv
          simp only [shOf, hu, argsOf]
          exact ⟨_, _, ⟨ar.toList, hcut.1, rfl⟩, k3 _ hcut.2, rfl⟩
        · rename_i n1 n2
          have e1 : shOf P (t :: ts) = none :: shOf P ts := by
            simp only [shOf]
          rw [e1]
          have hq1 : q0.length = 1 := by
            unfold topOf at hq
            split at hq
            · cases hq; rfl
            · cases hq; rfl
            · cases hq; rfl
            · cases hq; rfl
            · rename_i fs hu; exact absurd hu (n1 fs)
            · rename_i n e hu; exact absurd hu (n2 n e)
            · cases hq
          have hlen1 : v.cells.toList.length = 1 := by rw [hcl, hn', hq1]
          have hva : v.cells.toList = [v] := by
            unfold Cell.okWide at hv
            unfold topOf at hq
            split at hq
            · rename_i hu
              simp only [hu, Cell.ok] at hv
              split at hv <;> simp_all [Value.cells]
            · rename_i k hu
              simp only [hu, Cell.ok] at hv
              split at hv <;> simp_all [Value.cells]
            · rename_i hu
              simp only [hu, Cell.ok] at hv
              split at hv <;> simp_all [Value.cells]
            · rename_i e hu
              simp only [hu, Cell.ok] at hv
              split at hv <;> simp_all [Value.cells]
            · rename_i fs hu; exact absurd hu (n1 fs)
            · rename_i n e hu; exact absurd hu (n2 n e)
            · cases hq
          exact one hva (by rw [hn', hq1])
      · cases hl
    · cases hl
  | [], _ :: _, _, _, _, _, h, _ => by cases ‹List (DataW H)› <;> exact h.elim
  | _ :: _, [], _, _, _, _, h, _ => by cases ‹List (DataW H)› <;> exact h.elim

/-- a law of which each case hands back true, run on no heap of its own -/
theorem law_runs {E : Env} (hE : EnvOk P E) {fn : Func} {f : FuncId} {n : Nat} {k : Cases} {l : List Top} (hl : topsOf P fn.params.toList = some l) (hk : trueIn E n f (shOf P fn.params.toList) k l)
    {H : Type} {enc : TypeId × Value → H} (W : World) (base : Nat) (args : Array Value) (ds : List (DataW H)) (ps : List MemPlace)
    (hok : ∀ (j : Nat) t v, fn.params[j]? = some t → args[j]? = some v → Value.okWide P W .any base t v)
    (hA : DataW.TrodAll enc P W 0 (fun _ => true) true fn.params.toList args.toList ds ps) :
    Calls P f args W fun e W' => e = .returned (.bool true) ∧ Below W.heap.size W W' := by
  obtain ⟨cs, h1, h2⟩ := args_tops (ρ := Pl.none) (fun j t v ht hv => hok j t v (by simpa using ht) (by simpa using hv)) hA hl
  obtain ⟨l', h', k1, k2⟩ := trueIn_run k l hk h1
  have h3 := h2 l' k1
  have h4 := ((calls_ok hE n f _ _ _ _ k2).2 Pl.none W args.toList (R.empty W) h3)
  rw [Array.toArray_toList] at h4
  refine h4.mono fun e W' ⟨ρ', u, g1, g2, g3⟩ => ?_
  subst g1
  have : u = .bool true := g2
  subst this
  exact ⟨rfl, below_of_post g3 fun c ho => by obtain ⟨b, l, x, q1, _⟩ := ho; cases q1⟩
end
end Go.Abs
