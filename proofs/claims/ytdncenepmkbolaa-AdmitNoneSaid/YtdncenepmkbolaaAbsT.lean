/-
  WHAT MUST HOLD FOR CODE TO COME TO ITS END: reckoned over slots whose kinds the text tells. What cannot be reckoned is left as a question.
-/
import Derived.Test.YtdncenepmkbolaaAbsK
namespace Go.Abs.W
noncomputable section
open Go Go.Abs Go.Abs.S

/-- what a slot holds: its kind is known; what it is may be open -/
inductive SV where
  | lit (b : Bool)
  | bool (b : Bool)
  | int (k : IntKind) (n : Int)
  | str (s : List UInt8)
  | ptr (b o : Nat)
  | agg (cs : List AV)
  | nul (a : AV)
  | off
  | v (a : AV)

def SV.av : SV → AV
  | .lit b => .bool b
  | .bool b => .bool b
  | .int k n => .int k n
  | .str s => .str s
  | .ptr b o => .ptr b o
  | .agg cs => .agg cs
  | .nul a => a
  | .off => .tup []
  | .v a => a

def svOf : AV → SV
  | .bool b => .lit b
  | .int k n => .int k n
  | .str s => .str s
  | .ptr b o => .ptr b o
  | .agg cs => .agg cs
  | .nilp => .nul .nilp
  | .nils => .nul .nils
  | .nilm => .nul .nilm
  | .nilf => .nul .nilf
  | .nili => .nul .nili
  | a => .v a
theorem svOf_av (a : AV) : (svOf a).av = a := by cases a <;> rfl

/-- the questions -/
structure Pr where
  ldI : IntKind → H → Nat → Nat → (Int → Prop) → Prop
  ldB : H → Nat → Nat → (Bool → Prop) → Prop
  ldS : H → Nat → Nat → (List UInt8 → Prop) → Prop
  ld1 : H → Nat → Nat → (AV → Prop) → Prop
  ldA : Nat → H → Nat → Nat → (List AV → Prop) → Prop
  asI : IntKind → AV → (Int → Prop) → Prop
  asB : AV → (Bool → Prop) → Prop
  asS : AV → (List UInt8 → Prop) → Prop
  asA : AV → (List AV → Prop) → Prop
  ptr : AV → (Nat → Nat → Prop) → Prop
  fnz : AV → Prop → Prop
  one : AV → Prop → Prop
  nt : AV → Prop → Prop
  len : Nat → List AV → Prop → Prop
  cI : IntKind → List AV → Nat → (Int → Prop) → Prop
  cB : List AV → Nat → (Bool → Prop) → Prop
  cS : List AV → Nat → (List UInt8 → Prop) → Prop
  c1 : List AV → Nat → (AV → Prop) → Prop
  cA : Nat → List AV → Nat → (List AV → Prop) → Prop
  opt : Option AV → (AV → Prop) → Prop
  over : Nat → List AV → Nat → List AV → (List AV → Prop) → Prop
  st : H → Nat → Nat → List AV → (H → Prop) → Prop
  new : H → Blk → (Nat → H → Prop) → Prop
  skip : H → Nat → (Nat → H → Prop) → Prop
  newAt : H → Nat → Blk → (H → Prop) → Prop
  call : FuncId → List AV → H → (AV → H → Prop) → Prop
  callV : AV → List AV → H → (AV → H → Prop) → Prop
  cond : Bool → Prop → Prop → Prop
  loop : Code → T SV → H → (Ex → T SV → H → Prop) → Prop
  cut : Code → T SV → H → (Ex → T SV → H → Prop) → Prop
  nz : Int → Prop → Prop
  cat : List UInt8 → List UInt8 → Prop → Prop
  idx : Nat → AV → Int → (Nat → Nat → Prop) → Prop
  arr : Nat → Int → (Nat → Prop) → Prop
  slen : AV → (Nat → Prop) → Prop
  app : Nat → Nat → H → AV → AV → (AV → H → Prop) → Prop
  eff : Option (AV × H) → (AV → H → Prop) → Prop
  ext : AV → Nat → (AV → Prop) → Prop
  chr : List UInt8 → Int → (Nat → Prop) → Prop
  mks : Nat → Int → Int → (Nat → Nat → Prop) → Prop
  re1 : H → Nat → Nat → AV → Prop → Prop
  reA : Nat → H → Nat → Nat → List AV → Prop → Prop
  same : AV → AV → Prop → Prop

/-! the slots -/
def Sub (f : T SV) (fr : T AV) : Prop := ∀ k s, f.get k = some s → fr.get k = some s.av
theorem Sub.put {f : T SV} {fr : T AV} (h : Sub f fr) (k : Nat) (s : SV) : Sub (f.put k s) (fr.put k s.av) := fun j u hu => by
  rw [T.get_put] at hu ⊢
  by_cases e : j = k
  · rw [if_pos e] at hu ⊢; cases hu; rfl
  · rw [if_neg e] at hu ⊢; exact h j u hu
/-- a slot that holds what it held, told otherwise -/
theorem Sub.same {f : T SV} {fr : T AV} (h : Sub f fr) (k : Nat) (s u : SV) (hs : f.get k = some s) (he : s.av = u.av) : Sub (f.put k u) fr := fun j x hx => by
  rw [T.get_put] at hx
  by_cases e : j = k
  · rw [if_pos e] at hx; cases hx; subst e; rw [← he]; exact h _ _ hs
  · rw [if_neg e] at hx; exact h j x hx
theorem Sub.nil (fr : T AV) : Sub .nil fr := fun k s h => by cases h

def putS (f : T SV) (d : Option Tmp) (s : SV) : T SV :=
  match d with
  | some d => f.put d s
  | none => f
theorem Sub.putD {f : T SV} {fr : T AV} (h : Sub f fr) (d : Option Tmp) (s : SV) : Sub (putS f d s) (Go.Abs.putD fr d s.av) := by
  cases d with
  | none => exact h
  | some d => exact h.put d s

def look (f : T SV) : Operand → Option SV
  | .tmp t => f.get t
  | .const v => match absV v with
    | some a => some (svOf a)
    | none => none
  | .func g => some (.v (.fn g []))
  | .global _ => none
theorem look_sound {f : T SV} {fr : T AV} (hs : Sub f fr) {x : Operand} {s : SV} (h : look f x = some s) : opnd fr x = some s.av := by
  cases x with
  | tmp t => exact hs t s h
  | const v =>
    simp only [look] at h
    show absV v = _
    split at h
    · rename_i a ha; cases h; rw [ha, svOf_av]
    · cases h
  | func g => cases h; rfl
  | global _ => cases h

def lk (f : T SV) (x : Operand) (K : SV → Prop) : Prop :=
  match look f x with
  | some s => K s
  | none => False
theorem lk_sound {f : T SV} {fr : T AV} (hs : Sub f fr) {x : Operand} {K : SV → Prop} (h : lk f x K) : ∃ s, opnd fr x = some s.av ∧ K s := by
  unfold lk at h
  split at h
  · rename_i s e; exact ⟨s, look_sound hs e, h⟩
  · exact h.elim

def lks (f : T SV) (K : List SV → Prop) (l : List Operand) : Prop :=
  match l with
  | [] => K []
  | x :: r => lk f x fun s => lks f (fun ss => K (s :: ss)) r
theorem lks_sound {f : T SV} {fr : T AV} (hs : Sub f fr) : ∀ {l : List Operand} {K : List SV → Prop}, lks f K l → ∃ ss, opnds fr l = some (ss.map SV.av) ∧ K ss
  | [], K, h => ⟨[], rfl, h⟩
  | x :: r, K, h => by
    obtain ⟨s, h1, h2⟩ := lk_sound hs h
    obtain ⟨ss, h3, h4⟩ := lks_sound hs h2
    exact ⟨s :: ss, by rw [os_cons, h1, h3]; rfl, h4⟩

def lkp (f : T SV) (K : List (Nat × SV) → Prop) (l : List (Nat × Operand)) : Prop :=
  match l with
  | [] => K []
  | x :: r => lk f x.2 fun s => lkp f (fun ss => K ((x.1, s) :: ss)) r
theorem lkp_sound {f : T SV} {fr : T AV} (hs : Sub f fr) : ∀ {l : List (Nat × Operand)} {K : List (Nat × SV) → Prop}, lkp f K l → ∃ ss, partsOf fr l = some (ss.map fun p => (p.1, p.2.av)) ∧ K ss
  | [], K, h => ⟨[], rfl, h⟩
  | x :: r, K, h => by
    obtain ⟨s, h1, h2⟩ := lk_sound hs h
    obtain ⟨ss, h3, h4⟩ := lkp_sound hs h2
    exact ⟨(x.1, s) :: ss, by rw [ps_cons, h1, h3]; rfl, h4⟩

/-! the questions' answers -/
def cellOf (h : H) (b o : Nat) : Option AV :=
  match h.load b o 1 with
  | some [v] => some v
  | _ => none
def onI (k : IntKind) (x : Option AV) (K : Int → Prop) : Prop := ∃ n, x = some (.int k n) ∧ K n
def onB (x : Option AV) (K : Bool → Prop) : Prop := ∃ n, x = some (.bool n) ∧ K n
def onS (x : Option AV) (K : List UInt8 → Prop) : Prop := ∃ n, x = some (.str n) ∧ K n
def onA (x : Option AV) (K : List AV → Prop) : Prop := ∃ n, x = some (.agg n) ∧ K n
def onP (x : Option AV) (K : Nat → Nat → Prop) : Prop := ∃ b o, x = some (.ptr b o) ∧ K b o
def on1 {α : Type} (x : Option α) (K : α → Prop) : Prop := ∃ n, x = some n ∧ K n
def on2 {α β : Type} (x : Option (α × β)) (K : α → β → Prop) : Prop := ∃ a b, x = some (a, b) ∧ K a b
def both (a b : Prop) : Prop := a ∧ b
def ask (b : Bool) (A B : Prop) : Prop := (b = true → A) ∧ (b = false → B)

def idxS (size : Nat) (v : AV) (i : Int) : Option (Nat × Nat) :=
  match natOf i with
  | none => none
  | some i => match v with
    | .sl b o len _ => match Nat.blt i len with
      | true => some (b, o + i * size)
      | false => none
    | .so b r len es => match Nat.blt i len with
      | true => match Nat.beq size es with
        | true => some (b, (r + i) * es)
        | false => none
      | false => none
    | _ => none
def lenS : AV → Option Nat
  | .nils => some 0
  | .sl _ _ n _ => some n
  | .so _ _ n _ => some n
  | .top .emp => some 0
  | _ => none
def extS (i : Nat) : AV → Option AV
  | .tup vs => nth vs i
  | _ => none
def chrS (s : List UInt8) (i : Int) : Option Nat :=
  match natOf i with
  | none => none
  | some i => match nth s i with
    | some c => some c.toNat
    | none => none
def arrI (n : Nat) (i : Int) : Option Nat :=
  match natOf i with
  | none => none
  | some i => match Nat.blt i n with
    | true => some i
    | false => none
def overS (n : Nat) (cs : List AV) (off : Nat) (cur : List AV) : Option (List AV) :=
  match Nat.beq (lenN cs) n with
  | true => atN (over cs) off cur
  | false => none
def mkS (bytes : Nat) (l c : Int) : Option (Nat × Nat) :=
  match natOf l, natOf c with
  | some l, some c => match Nat.ble l c, Nat.ble (c * bytes) 1099511627776, Nat.ble c 1099511627776 with
    | true, true, true => some (l, c)
    | _, _, _ => none
  | _, _ => none
def subS (n : Nat) (cs : List AV) (off : Nat) : Option (List AV) := takeN n (dropN off cs)
def callS (call : CallF) (a : AV) (args : List AV) (h : H) : Option (AV × H) :=
  match a with
  | .fn f c => call f (args ++ c) h
  | _ => none

/-- all ways of a code's end, from any frame that holds at least this -/
def EvX (E : Env) (call : CallF) (F : Nat) (c : Code) (f : T SV) (h : H) (Q : Ex → T SV → H → Prop) : Prop :=
  ∀ fr, Sub f fr → ∃ e fr' h', codeA E call F c fr h = some (e, fr', h') ∧ ∃ f', Sub f' fr' ∧ Q e f' h'

def std (E : Env) (call : CallF) (F : Nat) : Pr where
  ldI k h b o K := onI k (cellOf h b o) K
  ldB h b o K := onB (cellOf h b o) K
  ldS h b o K := onS (cellOf h b o) K
  ld1 h b o K := on1 (cellOf h b o) K
  ldA n h b o K := on1 (h.load b o n) K
  asI k a K := onI k (some a) K
  asB a K := onB (some a) K
  asS a K := onS (some a) K
  asA a K := onA (some a) K
  ptr a K := onP (some a) K
  fnz a K := both (∃ f c, a = .fn f c) K
  one a K := both (a.one = true) K
  nt a K := both (a.noTup = true) K
  len n cs K := both (lenN cs = n) K
  cI k cs i K := onI k (nth cs i) K
  cB cs i K := onB (nth cs i) K
  cS cs i K := onS (nth cs i) K
  c1 cs i K := on1 (nth cs i) K
  cA n cs i K := on1 (subS n cs i) K
  opt x K := on1 x K
  over n cs off cur K := on1 (overS n cs off cur) K
  st h b o cs K := on1 (h.store b o cs) K
  new h x K := K h.n (h.new x)
  skip h n K := K h.n (h.skip n)
  newAt h b x K := K (h.put b x)
  call f args h K := on2 (call f args h) K
  callV a args h K := on2 (callS call a args h) K
  cond b A B := ask b A B
  loop c f h Q := EvX E call F (.loop c) f h Q
  cut c f h Q := EvX E call F c f h Q
  nz b K := both (b ≠ 0) K
  cat x y K := both (x.length + y.length ≤ 2 ^ 40) K
  idx n a i K := on2 (idxS n a i) K
  arr n i K := on1 (arrI n i) K
  slen a K := on1 (lenS a) K
  app size bytes h s x K := on2 (appendOp h size bytes s x) K
  eff x K := on2 x K
  ext a i K := on1 (extS i a) K
  chr s i K := on1 (chrS s i) K
  mks bytes l c K := on2 (mkS bytes l c) K
  re1 h b o u K := both (cellOf h b o = some u ∧ sameV u u = true) K
  reA n h b o cs K := both (h.load b o n = some cs ∧ sameL cs cs = true) K
  same a b K := both (sameV a b = true) K

/-! an operation -/
section
variable (p : Pr) (E : Env)

def co (ti : Option TI) (a : AV) (K : SV → Prop) : Prop :=
  match ti with
  | none => K (.v a)
  | some ti => match ti.k with
    | .int k => p.asI k a fun n => K (.int k n)
    | .bool => p.asB a fun b => K (.bool b)
    | .str => p.asS a fun s => K (.str s)
    | .struct _ => p.asA a fun cs => K (.agg cs)
    | .arr _ _ => p.asA a fun cs => K (.agg cs)
    | _ => K (.v a)

def asPtr (s : SV) (K : Nat → Nat → Prop) : Prop :=
  match s with
  | .ptr b o => K b o
  | .v a => p.ptr a K
  | _ => False

def cellsW (s : SV) (n : Nat) (K : List AV → Prop) : Prop :=
  match s with
  | .agg cs => p.len n cs (K cs)
  | .v a => match n with
    | 1 => p.one a (K [a])
    | _ => False
  | .nul a => match n with
    | 1 => match AV.one a with
      | true => K [a]
      | false => False
    | _ => False
  | .off => False
  | s => match n with
    | 1 => K [s.av]
    | _ => False

/-- one cell's worth of a list of cells, by its type -/
def cellW (ti : TI) (cs : List AV) (off : Nat) (K : SV → Prop) : Prop :=
  match ti.agg with
  | true => p.cA ti.size cs off fun c => K (.agg c)
  | false => match ti.size with
    | 1 => match ti.k with
      | .int k => p.cI k cs off fun n => K (.int k n)
      | .bool => p.cB cs off fun b => K (.bool b)
      | .str => p.cS cs off fun s => K (.str s)
      | _ => p.c1 cs off fun a => K (.v a)
    | _ => False

def loadW (ti : TI) (h : H) (b o : Nat) (K : SV → Prop) : Prop :=
  match ti.agg with
  | true => p.ldA ti.size h b o fun c => K (.agg c)
  | false => match ti.size with
    | 1 => match ti.k with
      | .int k => p.ldI k h b o fun n => K (.int k n)
      | .bool => p.ldB h b o fun b => K (.bool b)
      | .str => p.ldS h b o fun s => K (.str s)
      | _ => p.ld1 h b o fun a => K (.v a)
    | _ => False

def fillW (place : Nat → Option (Nat × Nat)) (ps : List (Nat × SV)) (cur : List AV) (opn : Bool) (K : List AV → Prop) : Prop :=
  match ps with
  | [] => K cur
  | (i, s) :: r => match place i with
    | none => False
    | some (off, size) => match s with
      | .agg cs => p.over size cs off cur fun cur => fillW place r cur true K
      | s => cellsW p s size fun cs => match opn with
        | true => p.over size cs off cur fun cur => fillW place r cur true K
        | false => match atN (over cs) off cur with
          | some cur => fillW place r cur false K
          | none => False

/-- bools held against each other -/
def boolW (op : BinOp) (t : TypeId) (a b : Bool) (K : SV → Prop) : Prop :=
  match E.tt.get t with
  | some ti => match ti.k with
    | .bool => match op with
      | .eql => K (.bool (a == b))
      | .neq => K (.bool (a != b))
      | _ => False
    | _ => False
  | none => False

def binW (op : BinOp) (t ty : TypeId) (x y : SV) (K : SV → Prop) : Prop :=
  match x, y with
  | .int k a, .int k' b => match decide (k = k') with
    | true => match op with
      | .add => K (.int k (k.wrap (a + b)))
      | .sub => K (.int k (k.wrap (a - b)))
      | .mul => K (.int k (k.wrap (a * b)))
      | .quo => p.nz b (K (.int k (k.wrap (a.tdiv b))))
      | .rem => p.nz b (K (.int k (a.tmod b)))
      | .lss => K (.bool (decide (a < b)))
      | .leq => K (.bool (decide (a ≤ b)))
      | .gtr => K (.bool (decide (b < a)))
      | .geq => K (.bool (decide (b ≤ a)))
      | .eql => K (.bool (decide (a = b)))
      | .neq => K (.bool (!decide (a = b)))
      | op => p.opt (binop E op t (.int k a) (.int k b)) fun a => co p (E.tt.get ty) a K
    | false => p.opt (binop E op t (.int k a) (.int k' b)) fun a => co p (E.tt.get ty) a K
  | .str a, .str b => match op with
    | .eql => K (.bool (a == b))
    | .neq => K (.bool (!(a == b)))
    | .add => p.cat a b (K (.str (a ++ b)))
    | op => p.opt (binop E op t (.str a) (.str b)) fun a => co p (E.tt.get ty) a K
  | .ptr b o, .nul a => p.opt (binop E op t (.ptr b o) a) fun a => co p (E.tt.get ty) a K
  | .bool a, .bool b => boolW E op t a b K
  | .bool a, .lit b => boolW E op t a b K
  | .lit a, .bool b => boolW E op t a b K
  | .lit a, .lit b => boolW E op t a b K
  | x, y => p.opt (binop E op t x.av y.av) fun a => co p (E.tt.get ty) a K

/-- min and max of numbers -/
def foldW (mn : Bool) (x : SV) (r : List SV) (K : SV → Prop) : Prop :=
  match r with
  | [] => K x
  | y :: r => match x, y with
    | .int k a, .int _ b => match mn with
      | true => foldW mn (.int k (min a b)) r K
      | false => foldW mn (.int k (max a b)) r K
    | _, _ => False

def optW (f : T SV) (x : Option Operand) (K : Option Int → Prop) : Prop :=
  match x with
  | none => K none
  | some x => lk f x fun s => match s with
    | .int _ n => K (some n)
    | _ => False

def pickW (f : T SV) (c a b : Operand) (K : SV → Prop) : Prop :=
  lk f c fun s => match s with
    | .lit true => lk f a K
    | .lit false => lk f b K
    | .bool x => p.cond x (lk f a K) (lk f b K)
    | _ => False

def onesW (l : List SV) (K : Prop) : Prop :=
  match l with
  | [] => K
  | .agg _ :: _ => False
  | .off :: _ => False
  | .v a :: r => p.one a (onesW r K)
  | .nul a :: r => p.one a (onesW r K)
  | _ :: r => onesW r K

def buildW (t : TypeId) (vs : List (Nat × SV)) (K : SV → Prop) : Prop :=
  match E.tt.get t with
  | some ti => match ti.k with
    | .struct fs => fillW p (placeS fs E.tt) vs ti.zero false fun cs => K (.agg cs)
    | .arr _ e => match E.tt.get e with
      | some te => fillW p (fun i => some (i * te.size, te.size)) vs ti.zero false fun cs => K (.agg cs)
      | none => False
    | _ => False
  | none => False

def fieldAddrW (t : TypeId) (f : Nat) (s : SV) (K : SV → Prop) : Prop :=
  match E.tt.get t with
  | some ti => match ti.k with
    | .struct fs => match nth fs f with
      | some (ft, off) => match E.tt.get ft with
        | some tf => match tf.size with
          | 0 => False
          | _ + 1 => asPtr p s fun b o => K (.ptr b (o + off))
        | none => False
      | none => False
    | _ => False
  | none => False

def fieldW (t : TypeId) (f : Nat) (s : SV) (K : SV → Prop) : Prop :=
  match E.tt.get t with
  | some ti => match ti.k with
    | .struct fs => match nth fs f with
      | some (ft, off) => match E.tt.get ft with
        | some tf => match s with
          | .agg cs => cellW p tf cs off K
          | _ => False
        | none => False
      | none => False
    | _ => False
  | none => False

def indexAddrW (t : TypeId) (s ix : SV) (K : SV → Prop) : Prop :=
  match ix with
  | .int _ i => match E.tt.get t with
    | some ti => match ti.k with
      | .slice e => match E.tt.get e with
        | some te => p.idx te.size s.av i fun b o => K (.ptr b o)
        | none => False
      | .arr n e => match E.tt.get e with
        | some te => asPtr p s fun b o => p.arr n i fun j => K (.ptr b (o + j * te.size))
        | none => False
      | _ => False
    | none => False
  | _ => False

def indexW (t : TypeId) (s ix : SV) (K : SV → Prop) : Prop :=
  match ix with
  | .int _ i => match E.tt.get t with
    | some ti => match ti.k, s with
      | .str, .str s => p.chr s i fun c => K (.int .u8 c)
      | .arr n e, .agg cs => match E.tt.get e with
        | some te => p.arr n i fun j => cellW p te cs (j * te.size) K
        | none => False
      | _, _ => False
    | none => False
  | _ => False

def nilW (ty : TypeId) (s : SV) (K : SV → Prop) : Prop :=
  match s with
  | .ptr b o => K (.ptr b o)
  | .v a => match E.tt.get ty with
    | some ti => match ti.k with
      | .fn => p.fnz a (K (.v a))
      | _ => p.ptr a fun b o => K (.ptr b o)
    | none => p.ptr a fun b o => K (.ptr b o)
  | _ => False

def pureW (f : T SV) (op : Op) (ty : TypeId) (K : SV → Prop) : Prop :=
  match op with
  | .move x => lk f x K
  | .assign x => lk f x K
  | .pick c a b => pickW p f c a b K
  | .build t ps => lkp f (fun vs => buildW p E t vs K) ps.toList
  | .nilCheck x => lk f x fun s => nilW p E ty s K
  | .binOp op t x y _ => lk f x fun a => lk f y fun b => binW p E op t ty a b K
  | .unOp op _ x => lk f x fun s => match op, s with
    | .not, .lit b => K (.lit (!b))
    | .not, .bool b => K (.bool (!b))
    | .neg, .int k n => K (.int k (k.wrap (0 - n)))
    | _, _ => False
  | .makeFunc (.func g) first cap => match first.toList with
    | [] => lks f (fun vs => onesW p vs (K (.v (.fn g (vs.map SV.av))))) cap.toList
    | _ => False
  | .slice t x lo hi mx => lk f x fun s => optW f lo fun lo => optW f hi fun hi => optW f mx fun mx => p.opt (sliceOp E.tt t s.av lo hi mx) fun a => co p (E.tt.get ty) a K
  | .fieldAddr t x i => lk f x fun s => fieldAddrW p E t i s K
  | .field t x i => lk f x fun s => fieldW p E t i s K
  | .indexAddr t x ix => lk f x fun s => lk f ix fun i => indexAddrW p E t s i K
  | .index t x ix => lk f x fun s => lk f ix fun i => indexW p E t s i K
  | .extract x i => lk f x fun s => p.ext s.av i fun a => co p (E.tt.get ty) a K
  | .call c => match c.callee with
    | .builtin b => lks f (fun vs => match b, vs with
      | .min, x :: r => foldW true x r K
      | .max, x :: r => foldW false x r K
      | _, _ => False) c.args.toList
    | _ => False
  | _ => False

def strOf (h : H) (a : AV) : Option AV :=
  match a with
  | .str _ => none
  | a => match rowsOf h 1 a with
    | some rs => match bytesOf rs with
      | some s => some (.str s)
      | none => none
    | none => none

def convW (src dst : TypeId) (h : H) (s : SV) (K : SV → Prop) : Prop :=
  match E.tt.get src with
  | some si => match E.tt.get dst with
    | some ti => match ti.k, s with
      | .int k, .int _ n => K (.int k (k.wrap n))
      | .str, .str s => K (.str s)
      | .str, .v a => match si.k with
        | .slice e => match E.tt.get e with
          | some te => match te.k with
            | .int .u8 => p.opt (strOf h a) fun a => p.asS a fun s => K (.str s)
            | _ => False
          | none => False
        | _ => False
      | _, _ => False
    | none => False
  | none => False

def lenW (ts : List TypeId) (vs : List SV) (K : SV → Prop) : Prop :=
  match vs with
  | [s] => match ts with
    | t :: _ => match E.tt.get t with
      | some ti => match ti.k with
        | .slice _ => match s with
          | .v a => p.slen a fun n => K (.int .i64 n)
          | .nul a => p.slen a fun n => K (.int .i64 n)
          | _ => False
        | .str => match s with
          | .str s => K (.int .i64 s.length)
          | _ => False
        | _ => False
      | none => False
    | [] => False
  | _ => False

def readW (f : T SV) (h : H) (op : Op) (K : SV → Prop) : Prop :=
  match op with
  | .load t x => lk f x fun s => match E.tt.get t with
    | some ti => asPtr p s fun b o => loadW p ti h b o K
    | none => False
  | .convert src dst x => lk f x fun s => convW p E src dst h s K
  | .call c => match c.callee with
    | .builtin .len => lks f (fun vs => lenW p E c.argTypes.toList vs K) c.args.toList
    | _ => False
  | _ => False

def rowsW (te : TI) (ps : List (Nat × SV)) (rs : List (List AV)) (K : List (List AV) → Prop) : Prop :=
  match ps with
  | [] => K rs
  | (i, s) :: r => cellsW p s te.size fun cs => match setAt rs i cs with
    | some rs => rowsW te r rs K
    | none => False

def allocW (f : T SV) (op : Op) (K : Blk → (Nat → SV) → Prop) : Prop :=
  match op with
  | .alloc t => match E.tt.get t with
    | some ti => K (.rows ti.size [ti.zero] false none none) fun b => .ptr b 0
    | none => False
  | .box t x => match E.tt.get t with
    | some ti => lk f x fun s => cellsW p s ti.size fun cs => K (.rows ti.size [cs] false none none) fun b => .ptr b 0
    | none => False
  | .buildSlice t len ps => match E.tt.get t with
    | some ti => match ti.k with
      | .slice e => match E.tt.get e with
        | some te => match te.size, Nat.ble (len * te.size) 65536 with
          | _ + 1, true => lkp f (fun vs => rowsW p te vs (List.replicate len te.zero) fun rs => K (.rows te.size rs false none none) fun b => .v (.sl b 0 len len)) ps.toList
          | _, _ => False
        | none => False
      | _ => False
    | none => False
  | .makeSlice t l c => match E.tt.get t with
    | some ti => match ti.k with
      | .slice e => match E.tt.get e with
        | some te => match te.size with
          | _ + 1 => lk f l fun l => lk f c fun c => match l, c with
            | .int _ l, .int _ c => p.mks te.bytes l c fun l c => K (.rows te.size (List.replicate c te.zero) false none none) fun b => .v (.sl b 0 l c)
            | _, _ => False
          | 0 => False
        | none => False
      | _ => False
    | none => False
  | _ => False

def effB (b : Builtin) (te : TI) (h : H) (vs : List AV) : Option (AV × H) :=
  match b, vs with
  | .copy, [.nils, x] => match rowsOf h te.size x with
    | some _ => some (.int .i64 0, h)
    | none => none
  | .copy, [d, x] => match te.size, rowsOf h te.size x, slRow te.size d with
    | _ + 1, some new, some (b, i, len) => match h.writeRows te.size b i (new.take len) with
      | some h => some (.int .i64 (min (lenN new) len : Nat), h)
      | none => none
    | _, _, _ => none
  | .clear, [.nils] => some (.tup [], h)
  | .clear, [d] => match te.size, slRow te.size d with
    | _ + 1, some (b, i, len) => match h.writeRows te.size b i (List.replicate len te.zero) with
      | some h => some (.tup [], h)
      | none => none
    | _, _ => none
  | _, _ => none

def builtW (b : Builtin) (te : TI) (ok : Bool) (h : H) (ty : TypeId) (vs : List SV) (K : SV → H → Prop) : Prop :=
  match b, vs with
  | .append, [s, x] => match ok with
    | true => p.app te.size te.bytes h s.av x.av fun a h => K (.v a) h
    | false => False
  | .copy, [d, x] => p.eff (effB .copy te h [d.av, x.av]) fun a h => co p (E.tt.get ty) a fun s => K s h
  | .clear, [d] => p.eff (effB .clear te h [d.av]) fun a h => K (.v a) h
  | _, _ => False

def effW (f : T SV) (h : H) (op : Op) (ty : TypeId) (K : SV → H → Prop) : Prop :=
  match op with
  | .store t a x => match E.tt.get t with
    | some ti => lk f a fun a => lk f x fun x => asPtr p a fun b o => cellsW p x ti.size fun cs => p.st h b o cs fun h => K (.v (.tup [])) h
    | none => False
  | .call c => match c.callee with
    | .value (.func g) => lks f (fun vs => p.call g (vs.map SV.av) h fun a h => co p (E.tt.get ty) a fun s => K s h) c.args.toList
    | .value x => lk f x fun s => lks f (fun vs => p.callV s.av (vs.map SV.av) h fun a h => co p (E.tt.get ty) a fun s => K s h) c.args.toList
    | .builtin b => match sliceElem E c.argTypes.toList with
      | some te => lks f (fun vs => builtW p E b te (srcOk E c.argTypes.toList) h ty vs K) c.args.toList
      | none => False
    | _ => False
  | _ => False

def execW (f : T SV) (h : H) (op : Op) (ty : TypeId) (K : SV → H → Prop) : Prop :=
  match cls op with
  | .pure => pureW p E f op ty fun s => K s h
  | .read => readW p E f h op fun s => K s h
  | .alloc => allocW p E f op fun x mk => p.new h x fun b h => K (mk b) h
  | .eff => effW p E f h op ty K

def guardW (ops : List Oper) (f : T SV) (o : Oper) (R S : T SV → Prop) : Prop :=
  match o.guard with
  | none => R f
  | some (j, want) => match nth ops j with
    | some g => match g.dst with
      | some d => match f.get d with
        | some (.lit b) => match b == want with
          | true => R f
          | false => S f
        | some .off => S f
        | some (.bool b) => match want with
          | true => p.cond b (R (f.put d (.lit true))) (S (f.put d (.lit false)))
          | false => p.cond b (S (f.put d (.lit true))) (R (f.put d (.lit false)))
        | _ => False
      | none => False
    | none => False

def opsW (ops l : List Oper) : (T SV → H → Prop) → T SV → H → Prop :=
  List.rec (fun K f h => K f h) (fun o _ ih K f h => guardW p ops f o
    (fun f => execW p E f h o.op o.type fun s h => ih K (putS f o.dst s) h)
    (fun f => ih K (putS f o.dst .off) h)) l

def dW (ops : List Oper) (base : Nat) (l : List Oper) : (T SV → H → List H → Prop) → Nat → T SV → H → Prop :=
  List.rec (fun K _ f h => K f h [h]) (fun o _ ih K i f h => match cls o.op with
    | .pure => guardW p ops f o
      (fun f => pureW p E f o.op o.type fun s => ih K (i + 1) (putS f o.dst s) h)
      (fun f => ih K (i + 1) (putS f o.dst .off) h)
    | .read => guardW p ops f o
      (fun f => readW p E f h o.op fun s => ih K (i + 1) (putS f o.dst s) h)
      (fun f => ih K (i + 1) (putS f o.dst .off) h)
    | .alloc => guardW p ops f o
      (fun f => allocW p E f o.op fun x mk => p.newAt h (base + i) x fun h => ih K (i + 1) (putS f o.dst (mk (base + i))) h)
      (fun f => ih K (i + 1) (putS f o.dst .off) h)
    | .eff => guardW p ops f o
      (fun f => effW p E f h o.op o.type fun s h' => ih (fun f' h'' hs => K f' h'' (h :: hs)) (i + 1) (putS f o.dst s) h')
      (fun f => ih (fun f' h'' hs => K f' h'' (h :: hs)) (i + 1) (putS f o.dst .off) h)) l

/-- a read that floats tells the same: of the heap alone -/
def reW (f : T SV) (h : H) (o : Oper) (K : Prop) : Prop :=
  match o.dst with
  | none => False
  | some d => match f.get d with
    | none => False
    | some u => match o.op with
      | .load t x => lk f x fun s => match E.tt.get t with
        | some ti => asPtr p s fun b o => match ti.agg with
          | true => match u with
            | .agg cs => p.reA ti.size h b o cs K
            | _ => False
          | false => match ti.size with
            | 1 => p.re1 h b o u.av K
            | _ => False
        | none => False
      | .call c => readW p E f h (.call c) fun s => p.same s.av u.av K
      | .convert a b x => readW p E f h (.convert a b x) fun s => p.same s.av u.av K
      | _ => False

def wantedW (ops : List Oper) (f : T SV) (o : Oper) : Option Bool :=
  match o.guard with
  | none => some true
  | some (j, want) => match nth ops j with
    | some g => match g.dst with
      | some d => match f.get d with
        | some (.lit b) => some (b == want)
        | some .off => some false
        | _ => none
      | none => none
    | none => none

def againW (ops : List Oper) (f : T SV) (hs : List H) (fl : List (Nat × Nat)) (K : Prop) : Prop :=
  match fl with
  | [] => K
  | x :: r => match nth hs x.1, nth ops x.2 with
    | some h, some o => match wantedW ops f o with
      | some true => reW p E f h o (againW ops f hs r K)
      | some false => againW ops f hs r K
      | none => False
    | _, _ => False

def regionW (ops : List Oper) (draw : Bool) (K : T SV → H → Prop) (f : T SV) (h : H) : Prop :=
  match draw with
  | false => opsW p E ops ops K f h
  | true => match regSt ops with
    | none => False
    | some fl => p.skip h (lenN ops) fun b0 h => dW p E ops b0 ops (fun f h hs => againW p E ops f hs fl (K f h)) 0 f h

def seqQ (b : (Ex → T SV → H → Prop) → T SV → H → Prop) (Q : Ex → T SV → H → Prop) (e : Ex) (f : T SV) (h : H) : Prop :=
  match e with
  | .norm => b Q f h
  | .exit j => Q (.exit j) f h
  | .ret => Q .ret f h
def blockQ (id : Nat) (Q : Ex → T SV → H → Prop) (e : Ex) (f : T SV) (h : H) : Prop :=
  match e with
  | .norm => Q .norm f h
  | .exit j => match Nat.beq j id with
    | true => Q .norm f h
    | false => Q (.exit j) f h
  | .ret => Q .ret f h

/-- cuts: the codes at which the reckoning stops (by their regions' numbers) -/
def wpW (cuts : Code → Bool) (c : Code) : (Ex → T SV → H → Prop) → T SV → H → Prop :=
  Code.rec (motive := fun _ => (Ex → T SV → H → Prop) → T SV → H → Prop)
    (fun Q f h => Q .norm f h)
    (fun _ ops draw Q f h => regionW p E ops.toList draw (fun f h => Q .norm f h) f h)
    (fun _ b ia ib Q f h => ia (seqQ (match cuts b with | true => fun Q f h => p.cut b f h Q | false => ib) Q) f h)
    (fun c _ _ ia ib Q f h => lk f c fun s => match s with
      | .lit true => ia Q f h
      | .lit false => ib Q f h
      | .bool b => match c with
        | .tmp t => p.cond b (ia Q (f.put t (.lit true)) h) (ib Q (f.put t (.lit false)) h)
        | _ => p.cond b (ia Q f h) (ib Q f h)
      | _ => False)
    (fun id _ ia Q f h => ia (blockQ id Q) f h)
    (fun c _ Q f h => p.loop c f h Q)
    (fun _ _ _ _ _ _ _ _ _ => False)
    (fun id Q f h => Q (.exit id) f h)
    (fun _ ia Q f h => ia Q f h)
    (fun _ Q f h => Q .norm f h)
    (fun _ _ _ _ => False)
    (fun Q f h => Q .ret f h)
    (fun _ _ _ _ => False)
    c

/-- what a function hands back -/
def resW (f : T SV) (h : H) (l : List ResultVar) (K : List SV → Prop) : Prop :=
  match l with
  | [] => K []
  | .tmp t :: r => match f.get t with
    | some s => resW f h r fun ss => K (s :: ss)
    | none => False
  | .cell a t :: r => match f.get a with
    | some s => match E.tt.get t with
      | some ti => asPtr p s fun b o => loadW p ti h b o fun s => resW f h r fun ss => K (s :: ss)
      | none => False
    | none => False

def ntW (l : List SV) (K : Prop) : Prop :=
  match l with
  | [] => K
  | .v a :: r => p.nt a (ntW r K)
  | .off :: _ => False
  | .nul a :: r => p.nt a (ntW r K)
  | _ :: r => ntW r K

def finW (l : List ResultVar) (K : AV → H → Prop) (f : T SV) (h : H) : Prop :=
  resW p E f h l fun ss => match ss with
    | [] => K (.tup []) h
    | [s] => K s.av h
    | s :: u :: r => ntW p (s :: u :: r) (K (.tup ((s :: u :: r).map SV.av)) h)

def endQ (l : List ResultVar) (K : AV → H → Prop) (e : Ex) (f : T SV) (h : H) : Prop :=
  match e with
  | .norm => finW p E l K f h
  | .ret => finW p E l K f h
  | .exit _ => False
end

def initS (l : List SV) : Nat → T SV → T SV :=
  List.rec (fun _ t => t) (fun v _ ih i t => ih (i + 1) (t.put i v)) l
def nocut : Code → Bool := fun _ => false
def bodyOf (fn : Func) : Code := fn.body.getD .skip
/-- a piece of a code, by its path -/
def sub : List Nat → Code → Code
  | [], c => c
  | 0 :: r, .seq a _ => sub r a
  | 1 :: r, .seq _ b => sub r b
  | 0 :: r, .cond _ a _ => sub r a
  | 1 :: r, .cond _ _ b => sub r b
  | _ :: r, .block _ a => sub r a
  | _ :: r, .loop a => sub r a
  | _ :: r, .scope a => sub r a
  | _, _ => .skip
/-- these slots alone -/
def keep (l : List Nat) (f : T SV) : T SV := l.foldl (fun t k => match f.get k with | some s => t.put k s | none => t) .nil
def keepQ (l : List Nat) (Q : Ex → T SV → H → Prop) : Ex → T SV → H → Prop := fun e f h => Q e (keep l f) h
/-- slots by a list -/
def frS (l : List (Nat × SV)) : T SV := l.foldl (fun t p => t.put p.1 p.2) .nil

end
end Go.Abs.W
