/-
  ABSTRACT MACHINE: a deterministic evaluator for the translated Go functions. Values with block numbers of its own; a heap of rows;
  append, allocation and the order of operations are decided here once. Its soundness over the model stands in the texts behind this one.
  Functions on the hot road are written by their recursors: the kernel evaluates them, and each has its equations by rfl.
-/
import GoSem.Step
namespace Go.Abs

/-! tries keyed by numbers -/
inductive T (α : Type) where
  | nil
  | node (l : T α) (v : Option α) (r : T α)

noncomputable def T.get {α : Type} (t : T α) : Nat → Option α :=
  T.rec (fun _ => none) (fun _ v _ gl gr n => Nat.rec v (fun m _ => Nat.rec (gl (m / 2)) (fun _ _ => gr (m / 2)) (m % 2)) n) t
noncomputable def T.setN {α : Type} (v : Option α) (f : Nat) : Nat → T α :=
  Nat.rec (fun _ => T.nil) (fun _ self n => Nat.rec (T.node .nil v .nil) (fun m _ => Nat.rec (T.node (self (m / 2)) none .nil) (fun _ _ => T.node .nil none (self (m / 2))) (m % 2)) n) f
noncomputable def T.set {α : Type} (v : Option α) (t : T α) : Nat → T α :=
  T.rec (fun n => T.setN v (n + 1) n) (fun l x r sl sr n => Nat.rec (T.node l v r) (fun m _ => Nat.rec (T.node (sl (m / 2)) x r) (fun _ _ => T.node l x (sr (m / 2))) (m % 2)) n) t
noncomputable def T.put {α : Type} (t : T α) (n : Nat) (v : α) : T α := T.set (some v) t n

/-! lists -/
noncomputable def nth {α : Type} (l : List α) : Nat → Option α :=
  List.rec (fun _ => none) (fun x _ ih n => Nat.rec (some x) (fun m _ => ih m) n) l
noncomputable def dropN {α : Type} (n : Nat) : List α → List α :=
  Nat.rec (fun l => l) (fun _ ih l => List.rec [] (fun _ r _ => ih r) l) n
/-- the first n, if there are as many -/
noncomputable def takeN {α : Type} (n : Nat) : List α → Option (List α) :=
  Nat.rec (fun _ => some []) (fun _ ih l => List.rec none (fun x r _ => Option.rec none (fun z => some (x :: z)) (ih r)) l) n
noncomputable def lenN {α : Type} (l : List α) : Nat := List.rec 0 (fun _ _ ih => Nat.succ ih) l
/-- the first ones of a list are written over by another one's, from the head on; none if it is shorter -/
noncomputable def over {α : Type} (vs : List α) : List α → Option (List α) :=
  List.rec (fun l => some l) (fun v _ ih l => List.rec none (fun _ r _ => Option.rec none (fun z => some (v :: z)) (ih r)) l) vs
/-- f at the tail behind n -/
noncomputable def atN {α : Type} (f : List α → Option (List α)) (n : Nat) : List α → Option (List α) :=
  Nat.rec f (fun _ ih l => List.rec none (fun x r _ => Option.rec none (fun z => some (x :: z)) (ih r)) l) n
noncomputable def setAt {α : Type} (l : List α) (n : Nat) (x : α) : Option (List α) := atN (over [x]) n l

/-! values -/
/-- one of many values: a number, or a text's or a slice's length, from .. to -/
inductive Top where
  | int (k : IntKind) (lo hi : Int)
  | str (lo hi : Nat)
  | sl (lo hi : Nat)
  | bool
  /-- a slice of none, but not nil -/
  | emp

inductive AV where
  | bool (b : Bool)
  | int (k : IntKind) (n : Int)
  | str (s : List UInt8)
  | ptr (b o : Nat)
  | nilp
  /-- from a cell on; the capacity is known -/
  | sl (b o len cap : Nat)
  /-- from a row on; as many as the block has are its capacity: how many is not known -/
  | so (b i len es : Nat)
  | nils
  | mp (b : Nat)
  | nilm
  | fn (f : FuncId) (cap : List AV)
  | nilf
  | nili
  | agg (cs : List AV)
  | tup (vs : List AV)
  | top (q : Top)
  deriving Inhabited

/-- the cells of a value that has n of them -/
noncomputable def AV.cellsN (v : AV) (n : Nat) : Option (List AV) :=
  match v with
  | .tup _ => none
  | .agg cs => match Nat.beq (lenN cs) n with
    | true => some cs
    | false => none
  | v => match n with
    | 1 => some [v]
    | _ => none

/-- of one cell -/
def AV.one : AV → Bool
  | .agg _ | .tup _ => false
  | _ => true

/-- closed values of the program's text -/
def absS : Value → Option AV
  | .bool b => some (.bool b)
  | .int k n => some (.int k n)
  | .string s => some (.str s.data.toList)
  | .pointer none => some .nilp
  | .slice none 0 0 => some .nils
  | .map none => some .nilm
  | .nilFunc => some .nilf
  | .nilIface => some .nili
  | _ => none

def absL : List Value → Option (List AV)
  | [] => some []
  | v :: r => match absS v with
    | some a => match absL r with
      | some l => some (a :: l)
      | none => none
    | none => none

def absV : Value → Option AV
  | .agg cs => match absL cs.toList with
    | some l => some (.agg l)
    | none => none
  | .tuple vs => match vs.toList with
    | [] => some (.tup [])
    | _ :: _ => none
  | v => absS v

def absZ : Value → Option (List AV)
  | .agg cs => absL cs.toList
  | v => match absS v with
    | some a => some [a]
    | none => none

/-! heap -/
inductive Blk where
  | rows (es : Nat) (rs : List (List AV)) (ro : Bool) (prev next : Option Nat)
  | dead

structure H where
  t : T Blk
  n : Nat

noncomputable def H.get (h : H) (b : Nat) : Option Blk := h.t.get b
noncomputable def H.put (h : H) (b : Nat) (x : Blk) : H := ⟨h.t.put b x, h.n⟩
noncomputable def H.kill (h : H) : Option Nat → H
  | none => h
  | some b => ⟨h.t.put b .dead, h.n⟩
noncomputable def H.new (h : H) (x : Blk) : H := ⟨h.t.put h.n x, Nat.succ h.n⟩

/-! type information -/
inductive TK where
  | int (k : IntKind)
  | bool
  | str
  | ptr (e : Nat)
  | slice (e : Nat)
  | struct (fs : List (Nat × Nat))
  | arr (n e : Nat)
  | map (k e : Nat)
  | fn
  | other

/-- the cells of types that may be held against each other cell by cell: numbers, bools, texts, and structs of such -/
inductive FK where
  | i | b | s

structure TI where
  agg : Bool
  size : Nat
  bytes : Nat
  zero : List AV
  flat : List FK
  k : TK

def tkOf : TypeDesc → TK
  | .bool => .bool
  | .int k => .int k
  | .string => .str
  | .pointer e => .ptr e
  | .slice e => .slice e
  | .struct fs => .struct (fs.toList.map fun f => (f.type, f.offset))
  | .array n e => .arr n e
  | .map k e => .map k e
  | .func .. => .fn
  | _ => .other

def flatOf (P : Program) : Nat → TypeId → Option (List FK)
  | 0, _ => none
  | d + 1, t => match P.underlying t with
    | some .bool => match Nat.beq (P.cellsOf t) 1 with | true => some [.b] | false => none
    | some (.int _) => match Nat.beq (P.cellsOf t) 1 with | true => some [.i] | false => none
    | some .string => match Nat.beq (P.cellsOf t) 1 with | true => some [.s] | false => none
    | some (.struct fs) => match P.stoodInHeld t with
      | true => none
      | false => match flds (flatOf P d) fs.toList 0 with
        | some ks => match Nat.beq (P.cellsOf t) ks.length with | true => some ks | false => none
        | none => none
    | _ => none
where
  flds (f : TypeId → Option (List FK)) : List Field → Nat → Option (List FK)
    | [], _ => some []
    | x :: r, o => match x.name != "_", Nat.beq x.offset o, f x.type with
      | true, true, some k => match flds f r (o + k.length) with
        | some l => some (k ++ l)
        | none => none
      | _, _, _ => none

def flatU (P : Program) (t : TypeId) : List FK :=
  match P.eqGuardType P.depth t with
  | true => []
  | false => match flatOf P 8 t with
    | some ks => ks
    | none => []

/-- the types of a struct's fields are all told of -/
def fieldsOk (P : Program) : TypeDesc → Bool
  | .struct fs => fs.toList.all fun f => (P.info? f.type).isSome
  | _ => true

def tiOf (P : Program) (t : TypeId) : Option TI :=
  match P.types[t]? with
  | none => none
  | some i =>
    match i.zero with
    | none => none
    | some z =>
      match absZ z with
      | none => none
      | some a =>
        match Nat.beq a.length i.size with
        | false => none
        | true =>
        match P.underlying t with
        | none => none
        | some d => match fieldsOk P d with
          | false => none
          | true => some { agg := (match d with | .struct _ | .array _ _ => true | _ => false), size := i.size, bytes := i.bytes, zero := a, flat := flatU P t, k := tkOf d }

noncomputable def mkTT (P : Program) (n : Nat) : T TI :=
  Nat.rec .nil (fun m ih => Option.rec ih (fun i => ih.put m i) (tiOf P m)) n

noncomputable def mkFT (l : List Func) : Nat → T Func :=
  List.rec (fun _ => .nil) (fun f _ ih n => (ih (n + 1)).put n f) l

structure Env where
  tt : T TI
  ft : T Func

/-! heap operations -/
noncomputable def H.load (h : H) (b o n : Nat) : Option (List AV) :=
  match h.get b with
  | some (.rows es rs _ _ _) =>
    match nth rs (o / es) with
    | some r => match o % es, Nat.beq n es with
      | 0, true => some r
      | c, _ => takeN n (dropN c r)
    | none => none
  | _ => none

noncomputable def H.store (h : H) (b o : Nat) (vs : List AV) : Option H :=
  match h.get b with
  | some (.rows es rs false p nx) =>
    match atN (fun l => match l with
        | [] => none
        | r :: z => match atN (over vs) (o % es) r with
          | some r' => some (r' :: z)
          | none => none) (o / es) rs with
    | some rs' => some (((h.kill p).kill nx).put b (.rows es rs' false none none))
    | none => none
  | _ => none

/-! operations on values -/
def binInt (op : BinOp) (k : IntKind) (a b : Int) : Option AV :=
  match op with
  | .add => some (.int k (k.wrap (a + b)))
  | .sub => some (.int k (k.wrap (a - b)))
  | .mul => some (.int k (k.wrap (a * b)))
  | .quo => if b = 0 then none else some (.int k (k.wrap (a.tdiv b)))
  | .rem => if b = 0 then none else some (.int k (a.tmod b))
  | .eql => some (.bool (a == b))
  | .neq => some (.bool (a != b))
  | .lss => some (.bool (decide (a < b)))
  | .leq => some (.bool (decide (a ≤ b)))
  | .gtr => some (.bool (decide (a > b)))
  | .geq => some (.bool (decide (a ≥ b)))
  | .and => some (.int k (k.wrap (BitVec.ofInt k.bits a &&& BitVec.ofInt k.bits b).toNat))
  | .or => some (.int k (k.wrap (BitVec.ofInt k.bits a ||| BitVec.ofInt k.bits b).toNat))
  | .xor => some (.int k (k.wrap (BitVec.ofInt k.bits a ^^^ BitVec.ofInt k.bits b).toNat))
  | .andNot => some (.int k (k.wrap (BitVec.ofInt k.bits a &&& ~~~ BitVec.ofInt k.bits b).toNat))
  | _ => none

def binStr (op : BinOp) (x y : List UInt8) : Option AV :=
  match op with
  | .add => if x.length + y.length ≤ 2 ^ 40 then some (.str (x ++ y)) else none
  | .eql => some (.bool (x == y))
  | .neq => some (.bool (!(x == y)))
  | .lss => some (.bool (Op.bytesLess x y))
  | .leq => some (.bool (Op.bytesLess x y || x == y))
  | .gtr => some (.bool !(Op.bytesLess x y || x == y))
  | .geq => some (.bool !(Op.bytesLess x y))
  | _ => none

/-- cells of flat types -/
def eqCell : FK → AV → AV → Option Bool
  | .i, .int k a, .int k' b => if k = k' then some (a == b) else none
  | .s, .str a, .str b => some (a == b)
  | .b, .bool a, .bool b => some (a == b)
  | _, _, _ => none

def eqCells : List FK → List AV → List AV → Option Bool
  | [], [], [] => some true
  | k :: ks, a :: x, b :: y => match eqCell k a b with
    | some true => eqCells ks x y
    | some false => match eqCells ks x y with | some _ => some false | none => none
    | none => none
  | _, _, _ => none

def eqK : TK → AV → AV → Option Bool
  | .bool, .bool a, .bool b => some (a == b)
  | .ptr _, .nilp, .nilp => some true
  | .ptr _, .nilp, .ptr _ _ => some false
  | .ptr _, .ptr _ _, .nilp => some false
  | .slice _, .nils, .nils => some true
  | .slice _, .nils, .sl .. => some false
  | .slice _, .sl .., .nils => some false
  | .slice _, .nils, .so .. => some false
  | .slice _, .so .., .nils => some false
  | .slice _, .nils, .top .emp => some false
  | .slice _, .top .emp, .nils => some false
  | .map .., .nilm, .nilm => some true
  | .map .., .nilm, .mp _ => some false
  | .map .., .mp _, .nilm => some false
  | .fn, .nilf, .nilf => some true
  | .fn, .nilf, .fn .. => some false
  | .fn, .fn .., .nilf => some false
  | _, _, _ => none

/-- on a type, by its information -/
def eqT (ti : TI) : AV → AV → Option Bool
  | .agg x, .agg y => match ti.flat, ti.k with
    | k :: ks, .struct _ => eqCells (k :: ks) x y
    | _, _ => none
  | x, y => eqK ti.k x y

/-- a number, from .. to -/
def ivl : AV → Option (IntKind × Int × Int)
  | .int k n => some (k, n, n)
  | .top (.int k a b) => some (k, a, b)
  | _ => none

def cmpR (op : BinOp) (a b c d : Int) : Option Bool :=
  match op with
  | .lss => if b < c then some true else if d ≤ a then some false else none
  | .leq => if b ≤ c then some true else if d < a then some false else none
  | .gtr => if d < a then some true else if b ≤ c then some false else none
  | .geq => if d ≤ a then some true else if b < c then some false else none
  | .eql => if b < c then some false else if d < a then some false else none
  | .neq => if b < c then some true else if d < a then some true else none
  | _ => none

def cmpT (op : BinOp) (x y : AV) : Option AV :=
  match ivl x, ivl y with
  | some (k, a, b), some (k', c, d) => if k = k' then match cmpR op a b c d with
      | some r => some (.bool r)
      | none => none
    else none
  | _, _ => none

noncomputable def binop0 (E : Env) (op : BinOp) (t : TypeId) (x y : AV) : Option AV :=
  match op, x, y with
  | .shl, .int k a, .int _ b => if b < 0 then none else some (.int k (k.wrap (a * 2 ^ (min b.toNat k.bits))))
  | .shr, .int k a, .int _ b => if b < 0 then none else some (.int k (a.fdiv (2 ^ (min b.toNat k.bits))))
  | op, .int k a, .int k' b => if k = k' then binInt op k a b else none
  | op, .str a, .str b => binStr op a b
  | .eql, x, y => match E.tt.get t with
    | some ti => match eqT ti x y with
      | some b => some (.bool b)
      | none => none
    | none => none
  | .neq, x, y => match E.tt.get t with
    | some ti => match eqT ti x y with
      | some b => some (.bool (!b))
      | none => none
    | none => none
  | _, _, _ => none

noncomputable def binop (E : Env) (op : BinOp) (t : TypeId) (x y : AV) : Option AV :=
  match binop0 E op t x y with
  | some v => some v
  | none => cmpT op x y

noncomputable def fillP (place : Nat → Option (Nat × Nat)) (ps : List (Nat × AV)) : List AV → Option (List AV) :=
  List.rec (fun cells => some cells) (fun p _ ih cells =>
    match place p.1 with
    | none => none
    | some (off, size) => match p.2.cellsN size with
      | some cs => match atN (over cs) off cells with
        | some cells => ih cells
        | none => none
      | none => none) ps

/-- where a struct's fields lie, and how wide they are -/
noncomputable def placeS (fs : List (Nat × Nat)) (tt : T TI) (i : Nat) : Option (Nat × Nat) :=
  match nth fs i with
  | some (t, off) => match tt.get t with
    | some ti => some (off, ti.size)
    | none => none
  | none => none

noncomputable def fillR (size : Nat) (ps : List (Nat × AV)) : List (List AV) → Option (List (List AV)) :=
  List.rec (fun rows => some rows) (fun p _ ih rows =>
    match p.2.cellsN size with
    | some cs => match setAt rows p.1 cs with
      | some rows => ih rows
      | none => none
    | none => none) ps

def mkV (ti : TI) (cs : List AV) : Option AV :=
  match ti.agg with
  | true => some (.agg cs)
  | false => match cs with
    | [v] => some v
    | _ => none

def natOf : Int → Option Nat
  | .ofNat n => some n
  | .negSucc _ => none

/-- slice bounds -/
def bounds (len cap : Nat) (lo hi mx : Option Int) : Option (Nat × Nat × Nat) :=
  match (match mx with | none => some cap | some m => natOf m) with
  | none => none
  | some m => match Nat.ble m cap with
    | false => none
    | true =>
    match (match hi with | none => some len | some x => natOf x) with
    | none => none
    | some h => match Nat.ble h m with
      | false => none
      | true => match (match lo with | none => some 0 | some x => natOf x) with
        | none => none
        | some l => match Nat.ble l h with
          | false => none
          | true => some (l, h, m)

noncomputable def sliceOp (tt : T TI) (t : TypeId) (x : AV) (lo hi mx : Option Int) : Option AV :=
  match tt.get t with
  | none => none
  | some ti => match ti.k, x with
    | .str, .str s => match mx with
      | some _ => none
      | none => match bounds s.length s.length lo hi none with
        | some (l, h, _) => some (.str ((s.drop l).take (h - l)))
        | none => none
    | .slice e, .nils => match tt.get e with
      | none => none
      | some _ => match hi, mx with
        | none, some _ => none
        | _, _ => match bounds 0 0 lo hi mx with
          | some _ => some .nils
          | none => none
    | .slice e, .top .emp => match tt.get e with
      | none => none
      | some _ => match hi, mx with
        | none, some _ => none
        | _, _ => match bounds 0 0 lo hi mx with
          | some _ => some (.top .emp)
          | none => none
    | .slice e, .sl b o len c => match tt.get e with
      | none => none
      | some te => match hi, mx with
        | none, some _ => none
        | _, _ => match bounds len c lo hi mx with
          | some (l, h, m) => some (.sl b (match Nat.beq m l with | true => o | false => o + l * te.size) (h - l) (m - l))
          | none => none
    | .slice e, .so b i len es => match tt.get e with
      | none => none
      | some te => match Nat.beq te.size es with
        | false => none
        | true => match hi, mx with
          | none, some _ => none
          | _, none => match bounds len len lo hi none with
            | some (l, h, _) => some (.so b (i + l) (h - l) es)
            | none => none
          | _, some m => match bounds len len lo hi (some m) with
            | some (l, h, m) => match Nat.beq m l with
              | true => none
              | false => some (.sl b ((i + l) * es) (h - l) (m - l))
            | none => none
    | _, _ => none

/-- a slice's block, the row at which it begins, its length -/
noncomputable def slRow (size : Nat) : AV → Option (Nat × Nat × Nat)
  | .sl b o len _ => match size with
    | 0 => none
    | _ + 1 => match o % size with
      | 0 => some (b, o / size, len)
      | _ + 1 => none
  | .so b i len es => match Nat.beq es size with
    | true => some (b, i, len)
    | false => none
  | _ => none

/-- the rows of a slice's elements -/
noncomputable def rowsOf (h : H) (size : Nat) (v : AV) : Option (List (List AV)) :=
  match v with
  | .nils => some []
  | .str s => match size with
    | 1 => some (s.map fun c => [.int .u8 c.toNat])
    | _ => none
  | .top .emp => some []
  | v => match slRow size v with
    | some (b, i, len) => match len with
      | 0 => some []
      | _ + 1 => match h.get b with
        | some (.rows es rs _ _ _) => match Nat.beq es size with
          | true => takeN len (dropN i rs)
          | false => none
        | _ => none
    | none => none

/-- write rows over those of a block, from row i on: it has them all -/
noncomputable def H.writeRows (h : H) (size b i : Nat) (new : List (List AV)) : Option H :=
  match h.get b with
  | some (.rows es rs false p nx) => match Nat.beq es size with
    | true => match atN (over new) i rs with
      | some rs' => some (((h.kill p).kill nx).put b (.rows es rs' false none none))
      | none => none
    | false => none
  | _ => none

noncomputable def appendOp (h : H) (size bytes : Nat) (s x : AV) : Option (AV × H) :=
  match size with
  | 0 => none
  | _ + 1 =>
  match rowsOf h size x with
  | none => none
  | some [] => match s with
    | .nils => some (.nils, h)
    | .sl b o len cap => match Nat.ble len cap with
      | true => some (.sl b o len cap, h)
      | false => none
    | .so b i len es => some (.so b i len es, h)
    | .top .emp => some (.top .emp, h)
    | _ => none
  | some (r0 :: new') =>
    let new := r0 :: new'
    let n := lenN new
    match s with
    | .nils => match Nat.ble (n * bytes) 1099511627776, Nat.ble n 1099511627776 with
        | true, true => some (.so h.n 0 n size, h.new (.rows size new false none none))
        | _, _ => none
    | .sl b o len cap =>
      match Nat.ble ((len + n) * bytes) 1099511627776, Nat.ble (len + n) 1099511627776 with
      | true, true => match Nat.ble (len + n) cap with
        | true => match slRow size s with
          | some (_, i, _) => match h.writeRows size b (i + len) new with
            | some h => some (.sl b o (len + n) cap, h)
            | none => none
          | none => none
        | false => match rowsOf h size s with
          | none => none
          | some old => some (.so h.n 0 (len + n) size, h.new (.rows size (old ++ new) false none none))
      | _, _ => none
    | .so b i len es =>
      match Nat.ble ((len + n) * bytes) 1099511627776, Nat.ble (len + n) 1099511627776 with
      | true, true => match h.get b with
        | some (.rows es' rs false p nx) => match Nat.beq es size, Nat.beq es' size with
          | true, true => match Nat.ble (i + len + n) (lenN rs) with
            | true => match h.writeRows size b (i + len) new with
              | some h => some (.so b i (len + n) es, h)
              | none => none
            | false =>
              -- in its place, or elsewhere: a new number; the elder one stays readable till one of the two is written
              match takeN (i + len) rs with
              | some rs' =>
                let h' := (h.kill p).kill nx
                some (.so h.n 0 (len + n) size, (h'.new (.rows size (dropN i rs' ++ new) false (some b) none)).put b (.rows es' rs' false none (some h.n)))
              | none => none
          | _, _ => none
        | _ => none
      | _, _ => none
    | _ => none

/-! operands -/
abbrev CallF := FuncId → List AV → H → Option (AV × H)

noncomputable def opnd (fr : T AV) : Operand → Option AV
  | .tmp t => fr.get t
  | .const v => absV v
  | .global _ => none
  | .func f => some (.fn f [])

noncomputable def opnds (fr : T AV) (l : List Operand) : Option (List AV) :=
  List.rec (some []) (fun x _ ih => match opnd fr x with
    | none => none
    | some v => match ih with
      | none => none
      | some vs => some (v :: vs)) l

noncomputable def partsOf (fr : T AV) (l : List (Nat × Operand)) : Option (List (Nat × AV)) :=
  List.rec (some []) (fun x _ ih => match opnd fr x.2 with
    | none => none
    | some v => match ih with
      | none => none
      | some vs => some ((x.1, v) :: vs)) l

noncomputable def optOp (fr : T AV) : Option Operand → Option (Option Int)
  | none => some none
  | some x => match opnd fr x with
    | some (.int _ n) => some (some n)
    | _ => none

def min2 : AV → AV → Option AV
  | .int k x, .int _ y => some (.int k (if y < x then y else x))
  | x, y => match ivl x, ivl y with
    | some (k, a, b), some (_, c, d) => some (.top (.int k (if c < a then c else a) (if d < b then d else b)))
    | _, _ => none
def max2 : AV → AV → Option AV
  | .int k x, .int _ y => some (.int k (if x < y then y else x))
  | x, y => match ivl x, ivl y with
    | some (k, a, b), some (_, c, d) => some (.top (.int k (if a < c then c else a) (if b < d then d else b)))
    | _, _ => none
def foldO (f : AV → AV → Option AV) : AV → List AV → Option AV
  | x, [] => some x
  | x, y :: r => match f x y with
    | some z => foldO f z r
    | none => none

/-! the four classes of operations -/
inductive Cls where
  | pure | alloc | read | eff

def clsCall : Callee → Cls
  | .builtin .len => .read
  | .builtin .min => .pure
  | .builtin .max => .pure
  | _ => .eff

def cls : Op → Cls
  | .move _ | .assign _ | .pick .. | .build .. | .nilCheck _ | .binOp .. | .unOp .. | .makeFunc .. | .slice .. | .fieldAddr .. | .field .. | .indexAddr .. | .index .. | .extract .. => .pure
  | .alloc _ | .box .. | .buildSlice .. | .makeSlice .. => .alloc
  | .load .. | .convert .. => .read
  | .call c => clsCall c.callee
  | _ => .eff

noncomputable def pureA (E : Env) (fr : T AV) : Op → Option AV
  | .move x => opnd fr x
  | .assign x => opnd fr x
  | .pick c a b => match opnd fr c with
    | some (.bool true) => opnd fr a
    | some (.bool false) => opnd fr b
    | _ => none
  | .build t ps => match E.tt.get t, partsOf fr ps.toList with
    | some ti, some vs => match ti.k with
      | .struct fs => match fillP (placeS fs E.tt) vs ti.zero with
        | some cs => some (.agg cs)
        | none => none
      | .arr _ e => match E.tt.get e with
        | some te => match fillP (fun i => some (i * te.size, te.size)) vs ti.zero with
          | some cs => some (.agg cs)
          | none => none
        | none => none
      | _ => none
    | _, _ => none
  | .nilCheck x => match opnd fr x with
    | some (.ptr b o) => some (.ptr b o)
    | some (.fn f c) => some (.fn f c)
    | _ => none
  | .binOp op t x y _ => match opnd fr x, opnd fr y with
    | some a, some b => binop E op t a b
    | _, _ => none
  | .unOp op _ x => match op, opnd fr x with
    | .not, some (.bool b) => some (.bool (!b))
    | .neg, some (.int k n) => some (.int k (k.wrap (0 - n)))
    | _, _ => none
  | .makeFunc (.func f) first cap => match opnds fr cap.toList with
    | some vs => match first.toList, vs.all AV.one with
      | [], true => some (.fn f vs)
      | _, _ => none
    | none => none
  | .slice t x lo hi mx => match opnd fr x, optOp fr lo, optOp fr hi, optOp fr mx with
    | some v, some lo, some hi, some mx => sliceOp E.tt t v lo hi mx
    | _, _, _, _ => none
  | .fieldAddr t x f => match E.tt.get t, opnd fr x with
    | some ti, some (.ptr b o) => match ti.k with
      | .struct fs => match nth fs f with
        | some (ft, off) => match E.tt.get ft with
          | some tf => match tf.size with
            | 0 => none
            | _ + 1 => some (.ptr b (o + off))
          | none => none
        | none => none
      | _ => none
    | _, _ => none
  | .field t x f => match E.tt.get t, opnd fr x with
    | some ti, some (.agg cs) => match ti.k with
      | .struct fs => match nth fs f with
        | some (ft, off) => match E.tt.get ft with
          | some tf => match takeN tf.size (dropN off cs) with
            | some c => mkV tf c
            | none => none
          | none => none
        | none => none
      | _ => none
    | _, _ => none
  | .indexAddr t x ix => match E.tt.get t, opnd fr x, opnd fr ix with
    | some ti, some v, some (.int _ i) => match natOf i with
      | some i => match ti.k, v with
        | .slice e, .sl b o len _ => match Nat.blt i len, E.tt.get e with
          | true, some te => some (.ptr b (o + i * te.size))
          | _, _ => none
        | .slice e, .so b r len es => match Nat.blt i len, E.tt.get e with
          | true, some te => match Nat.beq te.size es with
            | true => some (.ptr b ((r + i) * es))
            | false => none
          | _, _ => none
        | .arr n e, .ptr b o => match Nat.blt i n, E.tt.get e with
          | true, some te => some (.ptr b (o + i * te.size))
          | _, _ => none
        | _, _ => none
      | none => none
    | _, _, _ => none
  | .index t x ix => match E.tt.get t, opnd fr x, opnd fr ix with
    | some ti, some v, some (.int _ i) => match natOf i with
      | some i => match ti.k, v with
        | .str, .str s => match nth s i with
          | some c => some (.int .u8 c.toNat)
          | none => none
        | .arr n e, .agg cs => match Nat.blt i n, E.tt.get e with
          | true, some te => match takeN te.size (dropN (i * te.size) cs) with
            | some c => mkV te c
            | none => none
          | _, _ => none
        | _, _ => none
      | none => none
    | _, _, _ => none
  | .extract x i => match opnd fr x with
    | some (.tup vs) => nth vs i
    | _ => none
  | .call c => match c.callee with
    | .builtin b => match opnds fr c.args.toList with
      | none => none
      | some vs => match b, vs with
        | .min, x :: r => foldO min2 x r
        | .max, x :: r => foldO max2 x r
        | _, _ => none
    | _ => none
  | _ => none

noncomputable def allocA (E : Env) (fr : T AV) : Op → Option (Blk × (Nat → AV))
  | .alloc t => match E.tt.get t with
    | some ti => some (.rows ti.size [ti.zero] false none none, fun b => .ptr b 0)
    | none => none
  | .box t x => match E.tt.get t, opnd fr x with
    | some ti, some v => match v.cellsN ti.size with
      | some cs => some (.rows ti.size [cs] false none none, fun b => .ptr b 0)
      | none => none
    | _, _ => none
  | .buildSlice t len ps => match E.tt.get t, partsOf fr ps.toList with
    | some ti, some vs => match ti.k with
      | .slice e => match E.tt.get e with
        | some te => match te.size, Nat.ble (len * te.size) 65536 with
          | _ + 1, true => match fillR te.size vs (List.replicate len te.zero) with
            | some rs => some (.rows te.size rs false none none, fun b => .sl b 0 len len)
            | none => none
          | _, _ => none
        | none => none
      | _ => none
    | _, _ => none
  | .makeSlice t l c => match E.tt.get t, opnd fr l, opnd fr c with
    | some ti, some (.int _ l), some (.int _ c) => match ti.k, natOf l, natOf c with
      | .slice e, some l, some c => match E.tt.get e with
        | some te => match te.size, Nat.ble l c, Nat.ble (c * te.bytes) 1099511627776, Nat.ble c 1099511627776 with
          | _ + 1, true, true, true => some (.rows te.size (List.replicate c te.zero) false none none, fun b => .sl b 0 l c)
          | _, _, _, _ => none
        | none => none
      | _, _, _ => none
    | _, _, _ => none
  | _ => none

noncomputable def bytesOf (rs : List (List AV)) : Option (List UInt8) :=
  List.rec (some []) (fun r _ ih => match r, ih with
    | [.int .u8 n], some z => some (UInt8.ofNat n.toNat :: z)
    | _, _ => none) rs

noncomputable def readA (E : Env) (fr : T AV) (h : H) : Op → Option AV
  | .load t x => match E.tt.get t, opnd fr x with
    | some ti, some (.ptr b o) => match h.load b o ti.size with
      | some cs => mkV ti cs
      | none => none
    | _, _ => none
  | .convert src dst x => match E.tt.get src, E.tt.get dst, opnd fr x with
    | some si, some ti, some v => match ti.k, v with
      | .int k, .int _ n => some (.int k (k.wrap n))
      | .str, .str s => some (.str s)
      | .str, v => match si.k with
        | .slice e => match E.tt.get e with
          | some te => match te.k with
            | .int .u8 => match rowsOf h 1 v with
              | some rs => match bytesOf rs with
                | some s => some (.str s)
                | none => none
              | none => none
            | _ => none
          | none => none
        | _ => none
      | _, _ => none
    | _, _, _ => none
  | .call c => match c.callee with
    | .builtin .len => match opnds fr c.args.toList with
      | some [x] => match c.argTypes.toList with
        | t :: _ => match E.tt.get t with
          | some ti => match ti.k, x with
            | .slice _, .nils => some (.int .i64 0)
            | .slice _, .sl _ _ n _ => some (.int .i64 n)
            | .slice _, .so _ _ n _ => some (.int .i64 n)
            | .str, .str s => some (.int .i64 (lenN s))
            | .slice _, .top .emp => some (.int .i64 0)
            | .slice _, .top (.sl a b) => some (.top (.int .i64 a b))
            | .str, .top (.str a b) => some (.top (.int .i64 a b))
            | .map .., .nilm => some (.int .i64 0)
            | _, _ => none
          | none => none
        | [] => none
      | _ => none
    | _ => none
  | _ => none

noncomputable def sliceElem (E : Env) (ts : List TypeId) : Option TI :=
  match ts with
  | t :: _ => match E.tt.get t with
    | some ti => match ti.k with
      | .slice e => E.tt.get e
      | _ => none
    | none => none
  | [] => none

/-- append's second argument is a slice or a text -/
noncomputable def srcOk (E : Env) (ts : List TypeId) : Bool :=
  match ts with
  | _ :: t :: _ => match E.tt.get t with
    | some ti => match ti.k with
      | .slice _ => true
      | .str => true
      | _ => false
    | none => false
  | _ => false

noncomputable def effA (E : Env) (call : CallF) (fr : T AV) (h : H) : Op → Option (AV × H)
  | .store t a x => match E.tt.get t, opnd fr a, opnd fr x with
    | some ti, some (.ptr b o), some v => match v.cellsN ti.size with
      | some cs => match h.store b o cs with
        | some h => some (.tup [], h)
        | none => none
      | none => none
    | _, _, _ => none
  | .call c => match c.callee with
    | .value f => match opnd fr f, opnds fr c.args.toList with
      | some (.fn f cap), some vs => call f (vs ++ cap) h
      | _, _ => none
    | .invoke .. => none
    | .builtin b => match opnds fr c.args.toList, sliceElem E c.argTypes.toList with
      | some vs, some te => match b, vs with
        | .append, [s, x] => match srcOk E c.argTypes.toList with
          | true => appendOp h te.size te.bytes s x
          | false => none
        | .copy, [.nils, x] => match rowsOf h te.size x with
          | some _ => some (.int .i64 0, h)
          | none => none
        | .copy, [d, x] => match te.size, rowsOf h te.size x, slRow te.size d with
          | _ + 1, some new, some (b, i, len) => match h.writeRows te.size b i (new.take len) with
            | some h => some (.int .i64 (min (lenN new) len : Nat), h)
            | none => none
          | _, _, _ => none
        | .clear, [.nils] => some (.tup [], h)
        | .clear, [d] => match te.size, slRow te.size d with
          | _ + 1, some (b, i, len) => match h.writeRows te.size b i (List.replicate len te.zero) with
            | some h => some (.tup [], h)
            | none => none
          | _, _ => none
        | _, _ => none
      | _, _ => none
  | _ => none

noncomputable def execA (E : Env) (call : CallF) (fr : T AV) (h : H) (op : Op) : Option (AV × H) :=
  match cls op with
  | .pure => match pureA E fr op with
    | some v => some (v, h)
    | none => none
  | .read => match readA E fr h op with
    | some v => some (v, h)
    | none => none
  | .alloc => match allocA E fr op with
    | some (x, mk) => some (mk h.n, h.new x)
    | none => none
  | .eff => effA E call fr h op

/-! regions -/
noncomputable def wantedA (ops : List Oper) (fr : T AV) (o : Oper) : Option Bool :=
  match o.guard with
  | none => some true
  | some (j, want) => match nth ops j with
    | some g => match g.dst with
      | some d => match fr.get d with
        | some (.bool b) => some (b == want)
        | some (.tup []) => some false
        | _ => none
      | none => none
    | none => none

noncomputable def putD (fr : T AV) (d : Option Tmp) (v : AV) : T AV :=
  match d with
  | some d => fr.put d v
  | none => fr

noncomputable def runOps (E : Env) (call : CallF) (ops : List Oper) (l : List Oper) : T AV → H → Option (T AV × H) :=
  List.rec (fun fr h => some (fr, h)) (fun o _ ih fr h => match wantedA ops fr o with
    | some true => match execA E call fr h o.op with
      | some (v, h) => ih (putD fr o.dst v) h
      | none => none
    | some false => ih (putD fr o.dst (.tup [])) h
    | none => none) l

/-! a region that draws its order: what can be told of its text alone -/
/-- the numbers of the operations that come before each, in every order -/
def befs : List Oper → List Nat → List Nat
  | [], acc => acc
  | o :: r, acc => befs r (acc ++ [o.after.toList.foldl (fun s e => if Region.binds .any e then s ||| 2 ^ e.on ||| acc.getD e.on 0 else s) 0])

def isEff (o : Oper) : Bool := match cls o.op with | .eff => true | _ => false
def isRead (o : Oper) : Bool := match cls o.op with | .read => true | _ => false

/-- the slots that an operation looks at -/
def looks (ops : List Oper) (o : Oper) : List Tmp :=
  (o.op.operands.toList.filterMap fun | .tmp t => some t | _ => none) ++
  (match o.guard with
   | some (g, _) => ((ops[g]?).bind (·.dst)).toList
   | none => [])

/-- what is asked of the text: edges lead back; the effects are in one order; a slot is written once, and looked at behind that -/
def regGo (ops : List Oper) (bs : List Nat) : List Oper → (i : Nat) → Bool
  | [], _ => true
  | o :: r, i =>
    (o.after.toList.all fun e => !Region.binds .any e || Nat.blt e.on i) &&
    (match o.guard with
     | none => true
     | some (j, _) => Nat.testBit (bs.getD i 0) j) &&
    (!isEff o || (List.range i).all fun j => !((ops[j]?).any isEff) || Nat.testBit (bs.getD i 0) j) &&
    (match o.dst with
     | none => true
     | some d => (List.range i).all fun j => (ops[j]?).bind (·.dst) != some d) &&
    ((looks ops o).all fun t => (List.range ops.length).all fun j => (ops[j]?).bind (·.dst) != some t || (Nat.blt j i && Nat.testBit (bs.getD i 0) j)) &&
    regGo ops bs r (i + 1)

/-- how many effects lie ahead of place i -/
def effsTo (ops : List Oper) (i : Nat) : Nat := ((ops.take i).filter isEff).length

/-- which reads must be asked again, and behind how many effects -/
def floats (ops : List Oper) (bs : List Nat) : List (Nat × Nat) :=
  (List.range ops.length).flatMap fun i =>
    match ops[i]? with
    | none => []
    | some o =>
      if isRead o then
        let lo := ((List.range ops.length).filter fun j => (ops[j]?).any isEff && Nat.testBit (bs.getD i 0) j).length
        let hi := ((List.range ops.length).filter fun j => (ops[j]?).any isEff && !Nat.testBit (bs.getD j 0) i).length
        ((List.range (hi + 1 - lo)).map fun k => (lo + k, i)).filter fun (k, _) => !(Nat.beq k (effsTo ops i))
      else []

def regSt (ops : List Oper) : Option (List (Nat × Nat)) :=
  let bs := befs ops []
  if regGo ops bs ops 0 then some (floats ops bs) else none

/-- in the text's order; the heap ahead of each effect is kept; allocation number i takes base + i -/
noncomputable def runD (E : Env) (call : CallF) (ops : List Oper) (base : Nat) (l : List Oper) : Nat → T AV → H → Option (T AV × H × List H) :=
  List.rec (fun _ fr h => some (fr, h, [h])) (fun o _ ih i fr h =>
    match cls o.op with
    | .pure => match wantedA ops fr o with
      | some true => match pureA E fr o.op with
        | some v => ih (i + 1) (putD fr o.dst v) h
        | none => none
      | some false => ih (i + 1) (putD fr o.dst (.tup [])) h
      | none => none
    | .read => match wantedA ops fr o with
      | some true => match readA E fr h o.op with
        | some v => ih (i + 1) (putD fr o.dst v) h
        | none => none
      | some false => ih (i + 1) (putD fr o.dst (.tup [])) h
      | none => none
    | .alloc => match wantedA ops fr o with
      | some true => match allocA E fr o.op with
        | some (x, mk) => ih (i + 1) (putD fr o.dst (mk (base + i))) (h.put (base + i) x)
        | none => none
      | some false => ih (i + 1) (putD fr o.dst (.tup [])) h
      | none => none
    | .eff => match wantedA ops fr o with
      | some true => match effA E call fr h o.op with
        | some (v, h') => match ih (i + 1) (putD fr o.dst v) h' with
          | some (fr', h'', hs) => some (fr', h'', h :: hs)
          | none => none
        | none => none
      | some false => match ih (i + 1) (putD fr o.dst (.tup [])) h with
          | some (fr', h'', hs) => some (fr', h'', h :: hs)
          | none => none
      | none => none) l

mutual
def sameV : AV → AV → Bool
  | .bool a, .bool b => a == b
  | .int k a, .int k' b => decide (k = k') && decide (a = b)
  | .str a, .str b => a == b
  | .ptr b o, .ptr b' o' => Nat.beq b b' && Nat.beq o o'
  | .nilp, .nilp => true
  | .sl b o n c, .sl b' o' n' c' => Nat.beq b b' && Nat.beq o o' && Nat.beq n n' && Nat.beq c c'
  | .so b o n c, .so b' o' n' c' => Nat.beq b b' && Nat.beq o o' && Nat.beq n n' && Nat.beq c c'
  | .nils, .nils => true
  | .mp a, .mp b => Nat.beq a b
  | .nilm, .nilm => true
  | .fn f c, .fn f' c' => Nat.beq f f' && sameL c c'
  | .nilf, .nilf => true
  | .nili, .nili => true
  | .top .emp, .top .emp => true
  | .agg a, .agg b => sameL a b
  | .tup a, .tup b => sameL a b
  | _, _ => false
def sameL : List AV → List AV → Bool
  | [], [] => true
  | a :: x, b :: y => sameV a b && sameL x y
  | _, _ => false
end

/-- the reads that float tell the same -/
noncomputable def recheck (E : Env) (ops : List Oper) (fr : T AV) (hs : List H) (fl : List (Nat × Nat)) : Bool :=
  List.rec true (fun p _ ih => match nth hs p.1, nth ops p.2 with
    | some h, some o => match wantedA ops fr o with
      | some false => ih
      | some true => match readA E fr h o.op, o.dst with
        | some v, some d => match fr.get d with
          | some u => match sameV v u with
            | true => ih
            | false => false
          | none => false
        | _, _ => false
      | none => false
    | _, _ => false) fl

noncomputable def regionA (E : Env) (call : CallF) (ops : List Oper) (draw : Bool) (fr : T AV) (h : H) : Option (T AV × H) :=
  match draw with
  | false => runOps E call ops ops fr h
  | true => match regSt ops with
    | none => none
    | some fl => match runD E call ops h.n ops 0 fr ⟨h.t, h.n + lenN ops⟩ with
      | none => none
      | some (fr', h', hs) => match recheck E ops fr' hs fl with
        | true => some (fr', h')
        | false => none

/-! code -/
inductive Ex where
  | norm
  | exit (id : Nat)
  | ret

abbrev St := Option (Ex × T AV × H)

noncomputable def loopA (body : T AV → H → St) (n : Nat) : T AV → H → St :=
  Nat.rec (fun _ _ => none) (fun _ ih fr h => match body fr h with
    | none => none
    | some (.norm, fr, h) => ih fr h
    | some (.exit j, fr, h) => some (.exit j, fr, h)
    | some (.ret, fr, h) => some (.ret, fr, h)) n

noncomputable def codeA (E : Env) (call : CallF) (fuel : Nat) (c : Code) : T AV → H → St :=
  Code.rec (motive := fun _ => T AV → H → St)
    (fun fr h => some (.norm, fr, h))                                      -- skip
    (fun _ ops draw fr h => match regionA E call ops.toList draw fr h with       -- region
      | some (fr, h) => some (.norm, fr, h)
      | none => none)
    (fun _ _ ia ib fr h => match ia fr h with                              -- seq
      | none => none
      | some (.norm, fr, h) => ib fr h
      | some (.exit j, fr, h) => some (.exit j, fr, h)
      | some (.ret, fr, h) => some (.ret, fr, h))
    (fun c _ _ ia ib fr h => match opnd fr c with                          -- cond
      | some (.bool true) => ia fr h
      | some (.bool false) => ib fr h
      | _ => none)
    (fun id _ ia fr h => match ia fr h with                                -- block
      | none => none
      | some (.norm, fr, h) => some (.norm, fr, h)
      | some (.exit j, fr, h) => match Nat.beq j id with
        | true => some (.norm, fr, h)
        | false => some (.exit j, fr, h)
      | some (.ret, fr, h) => some (.ret, fr, h))
    (fun _ ia fr h => loopA ia fuel fr h)                                  -- loop
    (fun _ _ _ _ _ _ _ _ => none)                                         -- rangeFunc
    (fun id fr h => some (.exit id, fr, h))                                -- exit
    (fun _ ia fr h => ia fr h)                                             -- scope
    (fun _ fr h => some (.norm, fr, h))                                    -- label
    (fun _ _ _ => none)                                                    -- goto
    (fun fr h => some (.ret, fr, h))                                       -- ret
    (fun _ _ _ => none)                                                    -- refuse
    c

noncomputable def initFr (l : List AV) : Nat → T AV → T AV :=
  List.rec (fun _ t => t) (fun v _ ih i t => ih (i + 1) (t.put i v)) l

noncomputable def resA (E : Env) (fr : T AV) (h : H) (l : List ResultVar) : Option (List AV) :=
  List.rec (some []) (fun x _ ih => match (match x with
      | .tmp t => fr.get t
      | .cell a t => match E.tt.get t, fr.get a with
        | some ti, some (.ptr b o) => match h.load b o ti.size with
          | some cs => mkV ti cs
          | none => none
        | _, _ => none) with
    | some v => match ih with
      | some vs => some (v :: vs)
      | none => none
    | none => none) l

def AV.noTup : AV → Bool
  | .tup _ => false
  | _ => true

def oneOrTup : List AV → Option AV
  | [] => some (.tup [])
  | v :: r => match r with
    | [] => some v
    | _ :: _ => match v.noTup && r.all AV.noTup with
      | true => some (.tup (v :: r))
      | false => none

/-- what a call hands back -/
noncomputable def finishA (E : Env) (fn : Func) (fr : T AV) (h : H) : Option (AV × H) :=
  match resA E fr h fn.results.toList with
  | some vs => match oneOrTup vs with
    | some v => some (v, h)
    | none => none
  | none => none

/-- the slots that are written are there -/
def opsOk (n : Nat) : List Oper → Bool
  | [] => true
  | o :: r => (match o.dst with | some d => Nat.blt d n | none => true) && opsOk n r
def codeOk (n : Nat) : Code → Bool
  | .region _ ops _ => opsOk n ops.toList
  | .seq a b => codeOk n a && codeOk n b
  | .cond _ a b => codeOk n a && codeOk n b
  | .block _ a => codeOk n a
  | .loop a => codeOk n a
  | .scope a => codeOk n a
  | .label _ => true
  | .skip | .exit _ | .ret => true
  | _ => false

def notNG (fn : Func) : Bool := !(fn.name == "runtime.NumGoroutine")

noncomputable def callA (E : Env) (n : Nat) : CallF :=
  Nat.rec (fun _ _ _ => none) (fun m ih f args h => match E.ft.get f with
    | some fn => match fn.body with
      | some c => match codeOk fn.ntmps c && notNG fn, Nat.ble (lenN args) fn.ntmps with
        | true, true => match codeA E ih m c (initFr args 0 .nil) h with
          | some (.norm, fr, h) => finishA E fn fr h
          | some (.ret, fr, h) => finishA E fn fr h
          | _ => none
        | _, _ => none
      | none => none
    | none => none) n

end Go.Abs
