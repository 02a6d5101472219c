/-
  ABSTRACT MACHINE: a deterministic evaluator for the translated Go functions. Values with block numbers of its own; a heap of rows;
  append, allocation and the order of operations are decided here once. Its soundness over the model stands in the texts behind this one.
  Functions on the hot road are written by their recursors: the kernel evaluates them, and each has its equations by rfl.
-/
import GoSem.Step
import Derived.WalkKit
import Derived.MapKept
import Derived.Laws.StructEq
import Derived.ChangeKeysEq
namespace Go.Abs

/-! tries keyed by numbers -/
inductive T (α : Type) where
  | nil
  | node (l : T α) (v : Option α) (r : T α)

noncomputable def T.get {α : Type} (t : T α) : Nat → Option α :=
  T.rec (fun _ => none) (fun _ v _ gl gr n => Nat.rec v (fun m _ => Nat.rec (gl (m / 2)) (fun _ _ => gr (m / 2)) (m % 2)) n) t
noncomputable def T.setN {α : Type} (v : Option α) (f : Nat) : Nat → T α :=
  Nat.rec (fun _ => T.nil) (fun _ self n => Nat.rec (T.node .nil v .nil) (fun m _ => Nat.rec (T.node (self (m / 2)) none .nil) (fun _ _ => T.node .nil none (self (m / 2))) (m % 2)) n) f
noncomputable def T.set {α : Type} (v : Option α) (t : T α) : Nat → T α :=
  T.rec (fun n => T.setN v (n + 1) n) (fun l x r sl sr n => Nat.rec (T.node l v r) (fun m _ => Nat.rec (T.node (sl (m / 2)) x r) (fun _ _ => T.node l x (sr (m / 2))) (m % 2)) n) t
noncomputable def T.put {α : Type} (t : T α) (n : Nat) (v : α) : T α := T.set (some v) t n

/-! lists -/
noncomputable def nth {α : Type} (l : List α) : Nat → Option α :=
  List.rec (fun _ => none) (fun x _ ih n => Nat.rec (some x) (fun m _ => ih m) n) l
noncomputable def dropN {α : Type} (n : Nat) : List α → List α :=
  Nat.rec (fun l => l) (fun _ ih l => List.rec [] (fun _ r _ => ih r) l) n
/-- the first n, if there are as many -/
noncomputable def takeN {α : Type} (n : Nat) : List α → Option (List α) :=
  Nat.rec (fun _ => some []) (fun _ ih l => List.rec none (fun x r _ => Option.rec none (fun z => some (x :: z)) (ih r)) l) n
noncomputable def lenN {α : Type} (l : List α) : Nat := List.rec 0 (fun _ _ ih => Nat.succ ih) l
/-- the first ones of a list are written over by another one's, from the head on; none if it is shorter -/
noncomputable def over {α : Type} (vs : List α) : List α → Option (List α) :=
  List.rec (fun l => some l) (fun v _ ih l => List.rec none (fun _ r _ => Option.rec none (fun z => some (v :: z)) (ih r)) l) vs
/-- f at the tail behind n -/
noncomputable def atN {α : Type} (f : List α → Option (List α)) (n : Nat) : List α → Option (List α) :=
  Nat.rec f (fun _ ih l => List.rec none (fun x r _ => Option.rec none (fun z => some (x :: z)) (ih r)) l) n
noncomputable def setAt {α : Type} (l : List α) (n : Nat) (x : α) : Option (List α) := atN (over [x]) n l

/-! values -/
/-- one of many values: a number, or a text's or a slice's length, from .. to -/
inductive Top where
  | int (k : IntKind) (lo hi : Int)
  | str (lo hi : Nat)
  | sl (lo hi : Nat)
  | bool
  /-- a slice of none, but not nil -/
  | emp

inductive AV where
  | bool (b : Bool)
  | int (k : IntKind) (n : Int)
  | str (s : List UInt8)
  | ptr (b o : Nat)
  | nilp
  /-- from a cell on; the capacity is known -/
  | sl (b o len cap : Nat)
  /-- from a row on; as many as the block has are its capacity: how many is not known -/
  | so (b i len es : Nat)
  | nils
  | mp (b : Nat)
  | nilm
  | fn (f : FuncId) (cap : List AV)
  | nilf
  | nili
  | agg (cs : List AV)
  | tup (vs : List AV)
  | top (q : Top)
  deriving Inhabited

/-- the cells of a value that has n of them -/
noncomputable def AV.cellsN (v : AV) (n : Nat) : Option (List AV) :=
  match v with
  | .tup _ => none
  | .agg cs => match Nat.beq (lenN cs) n with
    | true => some cs
    | false => none
  | v => match n with
    | 1 => some [v]
    | _ => none

/-- of one cell -/
def AV.one : AV → Bool
  | .agg _ | .tup _ => false
  | _ => true

/-- closed values of the program's text -/
def absS : Value → Option AV
  | .bool b => some (.bool b)
  | .int k n => some (.int k n)
  | .string s => some (.str s.data.toList)
  | .pointer none => some .nilp
  | .slice none 0 0 => some .nils
  | .map none => some .nilm
  | .nilFunc => some .nilf
  | .nilIface => some .nili
  | _ => none

def absL : List Value → Option (List AV)
  | [] => some []
  | v :: r => match absS v with
    | some a => match absL r with
      | some l => some (a :: l)
      | none => none
    | none => none

def absV : Value → Option AV
  | .agg cs => match absL cs.toList with
    | some l => some (.agg l)
    | none => none
  | .tuple vs => match vs.toList with
    | [] => some (.tup [])
    | _ :: _ => none
  | v => absS v

def absZ : Value → Option (List AV)
  | .agg cs => absL cs.toList
  | v => match absS v with
    | some a => some [a]
    | none => none

/-! heap -/
inductive Blk where
  | rows (es : Nat) (rs : List (List AV)) (ro : Bool) (prev next : Option Nat)
  | dead
  /-- a map's entries: keys and values -/
  | map (es : List (AV × AV))

structure H where
  t : T Blk
  n : Nat

noncomputable def H.get (h : H) (b : Nat) : Option Blk := h.t.get b
noncomputable def H.put (h : H) (b : Nat) (x : Blk) : H := ⟨h.t.put b x, h.n⟩
noncomputable def H.kill (h : H) : Option Nat → H
  | none => h
  | some b => ⟨h.t.put b .dead, h.n⟩
noncomputable def H.new (h : H) (x : Blk) : H := ⟨h.t.put h.n x, Nat.succ h.n⟩

/-! type information -/
inductive TK where
  | int (k : IntKind)
  | bool
  | str
  | ptr (e : Nat)
  | slice (e : Nat)
  | struct (fs : List (Nat × Nat))
  | arr (n e : Nat)
  | map (k e : Nat)
  | fn
  | other

/-- the cells of types that may be held against each other cell by cell: numbers, bools, texts, and structs of such -/
inductive FK where
  | i | b | s

structure TI where
  agg : Bool
  size : Nat
  bytes : Nat
  zero : List AV
  flat : List FK
  k : TK

def tkOf : TypeDesc → TK
  | .bool => .bool
  | .int k => .int k
  | .string => .str
  | .pointer e => .ptr e
  | .slice e => .slice e
  | .struct fs => .struct (fs.toList.map fun f => (f.type, f.offset))
  | .array n e => .arr n e
  | .map k e => .map k e
  | .func .. => .fn
  | _ => .other

def repK (ks : List FK) : Nat → List FK
  | 0 => []
  | n + 1 => ks ++ repK ks n
def aggK : TK → Bool
  | .struct _ => true
  | .arr _ _ => true
  | _ => false

def flatOf (P : Program) : Nat → TypeId → Option (List FK)
  | 0, _ => none
  | d + 1, t => match P.underlying t with
    | some .bool => match Nat.beq (P.cellsOf t) 1 with | true => some [.b] | false => none
    | some (.int _) => match Nat.beq (P.cellsOf t) 1 with | true => some [.i] | false => none
    | some .string => match Nat.beq (P.cellsOf t) 1 with | true => some [.s] | false => none
    | some (.struct fs) => match P.stoodInHeld t with
      | true => none
      | false => match flds (flatOf P d) fs.toList 0 with
        | some ks => match Nat.beq (P.cellsOf t) ks.length with | true => some ks | false => none
        | none => none
    | some (.array n e) => match flatOf P d e with
      | some ks => match Nat.beq (P.cellsOf e) ks.length, Nat.beq (P.cellsOf t) (repK ks n).length with
        | true, true => some (repK ks n)
        | _, _ => none
      | none => none
    | _ => none
where
  flds (f : TypeId → Option (List FK)) : List Field → Nat → Option (List FK)
    | [], _ => some []
    | x :: r, o => match x.name != "_", Nat.beq x.offset o, f x.type with
      | true, true, some k => match flds f r (o + k.length) with
        | some l => some (k ++ l)
        | none => none
      | _, _, _ => none

def flatU (P : Program) (t : TypeId) : List FK :=
  match P.eqGuardType P.depth t with
  | true => []
  | false => match flatOf P 8 t with
    | some ks => ks
    | none => []

/-- the types of a struct's fields are all told of -/
def fieldsOk (P : Program) : TypeDesc → Bool
  | .struct fs => fs.toList.all fun f => (P.info? f.type).isSome
  | _ => true

/-- a zero value has its type's outer form -/
def zOk : TypeDesc → Value → Bool
  | .struct _, .agg _ => true
  | .array _ _, .agg _ => true
  | .struct _, _ => false
  | .array _ _, _ => false
  | _, .agg _ => false
  | _, _ => true

def tiOf (P : Program) (t : TypeId) : Option TI :=
  match P.types[t]? with
  | none => none
  | some i =>
    match i.zero with
    | none => none
    | some z =>
      match absZ z with
      | none => none
      | some a =>
        match Nat.beq a.length i.size with
        | false => none
        | true =>
        match P.underlying t with
        | none => none
        | some d => match fieldsOk P d with
          | false => none
          | true => match zOk d z with
          | false => none
          | true => some { agg := (match d with | .struct _ | .array _ _ => true | _ => false), size := i.size, bytes := i.bytes, zero := a, flat := flatU P t, k := tkOf d }

noncomputable def mkTT (P : Program) (n : Nat) : T TI :=
  Nat.rec .nil (fun m ih => Option.rec ih (fun i => ih.put m i) (tiOf P m)) n

noncomputable def mkFT (l : List Func) : Nat → T Func :=
  List.rec (fun _ => .nil) (fun f _ ih n => (ih (n + 1)).put n f) l

structure Env where
  tt : T TI
  ft : T Func

/-! heap operations -/
noncomputable def H.load (h : H) (b o n : Nat) : Option (List AV) :=
  match h.get b with
  | some (.rows es rs _ _ _) =>
    match nth rs (o / es) with
    | some r => match o % es, Nat.beq n es with
      | 0, true => some r
      | c, _ => takeN n (dropN c r)
    | none => none
  | _ => none

noncomputable def H.store (h : H) (b o : Nat) (vs : List AV) : Option H :=
  match h.get b with
  | some (.rows es rs false p nx) =>
    match atN (fun l => match l with
        | [] => none
        | r :: z => match atN (over vs) (o % es) r with
          | some r' => some (r' :: z)
          | none => none) (o / es) rs with
    | some rs' => some (((h.kill p).kill nx).put b (.rows es rs' false none none))
    | none => none
  | _ => none

/-! operations on values -/
def binInt (op : BinOp) (k : IntKind) (a b : Int) : Option AV :=
  match op with
  | .add => some (.int k (k.wrap (a + b)))
  | .sub => some (.int k (k.wrap (a - b)))
  | .mul => some (.int k (k.wrap (a * b)))
  | .quo => if b = 0 then none else some (.int k (k.wrap (a.tdiv b)))
  | .rem => if b = 0 then none else some (.int k (a.tmod b))
  | .eql => some (.bool (a == b))
  | .neq => some (.bool (a != b))
  | .lss => some (.bool (decide (a < b)))
  | .leq => some (.bool (decide (a ≤ b)))
  | .gtr => some (.bool (decide (a > b)))
  | .geq => some (.bool (decide (a ≥ b)))
  | .and => some (.int k (k.wrap (BitVec.ofInt k.bits a &&& BitVec.ofInt k.bits b).toNat))
  | .or => some (.int k (k.wrap (BitVec.ofInt k.bits a ||| BitVec.ofInt k.bits b).toNat))
  | .xor => some (.int k (k.wrap (BitVec.ofInt k.bits a ^^^ BitVec.ofInt k.bits b).toNat))
  | .andNot => some (.int k (k.wrap (BitVec.ofInt k.bits a &&& ~~~ BitVec.ofInt k.bits b).toNat))
  | _ => none

def binStr (op : BinOp) (x y : List UInt8) : Option AV :=
  match op with
  | .add => if x.length + y.length ≤ 2 ^ 40 then some (.str (x ++ y)) else none
  | .eql => some (.bool (x == y))
  | .neq => some (.bool (!(x == y)))
  | .lss => some (.bool (Op.bytesLess x y))
  | .leq => some (.bool (Op.bytesLess x y || x == y))
  | .gtr => some (.bool !(Op.bytesLess x y || x == y))
  | .geq => some (.bool !(Op.bytesLess x y))
  | _ => none

/-- cells of flat types -/
def eqCell : FK → AV → AV → Option Bool
  | .i, .int k a, .int k' b => if k = k' then some (a == b) else none
  | .s, .str a, .str b => some (a == b)
  | .b, .bool a, .bool b => some (a == b)
  | _, _, _ => none

def eqCells : List FK → List AV → List AV → Option Bool
  | [], [], [] => some true
  | k :: ks, a :: x, b :: y => match eqCell k a b with
    | some true => eqCells ks x y
    | some false => match eqCells ks x y with | some _ => some false | none => none
    | none => none
  | _, _, _ => none

def eqK : TK → AV → AV → Option Bool
  | .bool, .bool a, .bool b => some (a == b)
  | .ptr _, .nilp, .nilp => some true
  | .ptr _, .nilp, .ptr _ _ => some false
  | .ptr _, .ptr _ _, .nilp => some false
  | .slice _, .nils, .nils => some true
  | .slice _, .nils, .sl .. => some false
  | .slice _, .sl .., .nils => some false
  | .slice _, .nils, .so .. => some false
  | .slice _, .so .., .nils => some false
  | .slice _, .nils, .top .emp => some false
  | .slice _, .top .emp, .nils => some false
  | .map .., .nilm, .nilm => some true
  | .map .., .nilm, .mp _ => some false
  | .map .., .mp _, .nilm => some false
  | .fn, .nilf, .nilf => some true
  | .fn, .nilf, .fn .. => some false
  | .fn, .fn .., .nilf => some false
  | _, _, _ => none

/-- on a type, by its information -/
def eqT (ti : TI) : AV → AV → Option Bool
  | .agg x, .agg y => match ti.flat, aggK ti.k with
    | k :: ks, true => eqCells (k :: ks) x y
    | _, _ => none
  | x, y => eqK ti.k x y

/-- a number, from .. to -/
def ivl : AV → Option (IntKind × Int × Int)
  | .int k n => some (k, n, n)
  | .top (.int k a b) => some (k, a, b)
  | _ => none

def cmpR (op : BinOp) (a b c d : Int) : Option Bool :=
  match op with
  | .lss => if b < c then some true else if d ≤ a then some false else none
  | .leq => if b ≤ c then some true else if d < a then some false else none
  | .gtr => if d < a then some true else if b ≤ c then some false else none
  | .geq => if d ≤ a then some true else if b < c then some false else none
  | .eql => if b < c then some false else if d < a then some false else none
  | .neq => if b < c then some true else if d < a then some true else none
  | _ => none

def cmpT (op : BinOp) (x y : AV) : Option AV :=
  match ivl x, ivl y with
  | some (k, a, b), some (k', c, d) => if k = k' then match cmpR op a b c d with
      | some r => some (.bool r)
      | none => none
    else none
  | _, _ => none

noncomputable def binop0 (E : Env) (op : BinOp) (t : TypeId) (x y : AV) : Option AV :=
  match op, x, y with
  | .shl, .int k a, .int _ b => if b < 0 then none else some (.int k (k.wrap (a * 2 ^ (min b.toNat k.bits))))
  | .shr, .int k a, .int _ b => if b < 0 then none else some (.int k (a.fdiv (2 ^ (min b.toNat k.bits))))
  | op, .int k a, .int k' b => if k = k' then binInt op k a b else none
  | op, .str a, .str b => binStr op a b
  | .eql, x, y => match E.tt.get t with
    | some ti => match eqT ti x y with
      | some b => some (.bool b)
      | none => none
    | none => none
  | .neq, x, y => match E.tt.get t with
    | some ti => match eqT ti x y with
      | some b => some (.bool (!b))
      | none => none
    | none => none
  | _, _, _ => none

noncomputable def binop (E : Env) (op : BinOp) (t : TypeId) (x y : AV) : Option AV :=
  match binop0 E op t x y with
  | some v => some v
  | none => cmpT op x y

noncomputable def fillP (place : Nat → Option (Nat × Nat)) (ps : List (Nat × AV)) : List AV → Option (List AV) :=
  List.rec (fun cells => some cells) (fun p _ ih cells =>
    match place p.1 with
    | none => none
    | some (off, size) => match p.2.cellsN size with
      | some cs => match atN (over cs) off cells with
        | some cells => ih cells
        | none => none
      | none => none) ps

/-- where a struct's fields lie, and how wide they are -/
noncomputable def placeS (fs : List (Nat × Nat)) (tt : T TI) (i : Nat) : Option (Nat × Nat) :=
  match nth fs i with
  | some (t, off) => match tt.get t with
    | some ti => some (off, ti.size)
    | none => none
  | none => none

noncomputable def fillR (size : Nat) (ps : List (Nat × AV)) : List (List AV) → Option (List (List AV)) :=
  List.rec (fun rows => some rows) (fun p _ ih rows =>
    match p.2.cellsN size with
    | some cs => match setAt rows p.1 cs with
      | some rows => ih rows
      | none => none
    | none => none) ps

def mkV (ti : TI) (cs : List AV) : Option AV :=
  match ti.agg with
  | true => some (.agg cs)
  | false => match cs with
    | [v] => some v
    | _ => none

def natOf : Int → Option Nat
  | .ofNat n => some n
  | .negSucc _ => none

/-- slice bounds -/
def bounds (len cap : Nat) (lo hi mx : Option Int) : Option (Nat × Nat × Nat) :=
  match (match mx with | none => some cap | some m => natOf m) with
  | none => none
  | some m => match Nat.ble m cap with
    | false => none
    | true =>
    match (match hi with | none => some len | some x => natOf x) with
    | none => none
    | some h => match Nat.ble h m with
      | false => none
      | true => match (match lo with | none => some 0 | some x => natOf x) with
        | none => none
        | some l => match Nat.ble l h with
          | false => none
          | true => some (l, h, m)

noncomputable def sliceOp (tt : T TI) (t : TypeId) (x : AV) (lo hi mx : Option Int) : Option AV :=
  match tt.get t with
  | none => none
  | some ti => match ti.k, x with
    | .str, .str s => match mx with
      | some _ => none
      | none => match bounds s.length s.length lo hi none with
        | some (l, h, _) => some (.str ((s.drop l).take (h - l)))
        | none => none
    | .slice e, .nils => match tt.get e with
      | none => none
      | some _ => match hi, mx with
        | none, some _ => none
        | _, _ => match bounds 0 0 lo hi mx with
          | some _ => some .nils
          | none => none
    | .slice e, .top .emp => match tt.get e with
      | none => none
      | some _ => match hi, mx with
        | none, some _ => none
        | _, _ => match bounds 0 0 lo hi mx with
          | some _ => some (.top .emp)
          | none => none
    | .slice e, .sl b o len c => match tt.get e with
      | none => none
      | some te => match hi, mx with
        | none, some _ => none
        | _, _ => match bounds len c lo hi mx with
          | some (l, h, m) => some (.sl b (match Nat.beq m l with | true => o | false => o + l * te.size) (h - l) (m - l))
          | none => none
    | .slice e, .so b i len es => match tt.get e with
      | none => none
      | some te => match Nat.beq te.size es with
        | false => none
        | true => match hi, mx with
          | none, some _ => none
          | _, none => match bounds len len lo hi none with
            | some (l, h, _) => some (.so b (i + l) (h - l) es)
            | none => none
          | _, some m => match bounds len len lo hi (some m) with
            | some (l, h, m) => match Nat.beq m l with
              | true => none
              | false => some (.sl b ((i + l) * es) (h - l) (m - l))
            | none => none
    | _, _ => none

/-- a slice's block, the row at which it begins, its length -/
noncomputable def slRow (size : Nat) : AV → Option (Nat × Nat × Nat)
  | .sl b o len _ => match size with
    | 0 => none
    | _ + 1 => match o % size with
      | 0 => some (b, o / size, len)
      | _ + 1 => none
  | .so b i len es => match Nat.beq es size with
    | true => some (b, i, len)
    | false => none
  | _ => none

/-- the rows of a slice's elements -/
noncomputable def rowsOf (h : H) (size : Nat) (v : AV) : Option (List (List AV)) :=
  match v with
  | .nils => some []
  | .str s => match size with
    | 1 => some (s.map fun c => [.int .u8 c.toNat])
    | _ => none
  | .top .emp => some []
  | v => match slRow size v with
    | some (b, i, len) => match len with
      | 0 => some []
      | _ + 1 => match h.get b with
        | some (.rows es rs _ _ _) => match Nat.beq es size with
          | true => takeN len (dropN i rs)
          | false => none
        | _ => none
    | none => none

/-- write rows over those of a block, from row i on: it has them all -/
noncomputable def H.writeRows (h : H) (size b i : Nat) (new : List (List AV)) : Option H :=
  match h.get b with
  | some (.rows es rs false p nx) => match Nat.beq es size with
    | true => match atN (over new) i rs with
      | some rs' => some (((h.kill p).kill nx).put b (.rows es rs' false none none))
      | none => none
    | false => none
  | _ => none

noncomputable def appendOp (h : H) (size bytes : Nat) (s x : AV) : Option (AV × H) :=
  match size with
  | 0 => none
  | _ + 1 =>
  match rowsOf h size x with
  | none => none
  | some [] => match s with
    | .nils => some (.nils, h)
    | .sl b o len cap => match Nat.ble len cap with
      | true => some (.sl b o len cap, h)
      | false => none
    | .so b i len es => some (.so b i len es, h)
    | .top .emp => some (.top .emp, h)
    | _ => none
  | some (r0 :: new') =>
    let new := r0 :: new'
    let n := lenN new
    match s with
    | .nils => match Nat.ble (n * bytes) 1099511627776, Nat.ble n 1099511627776 with
        | true, true => some (.so h.n 0 n size, h.new (.rows size new false none none))
        | _, _ => none
    | .sl b o len cap =>
      match Nat.ble ((len + n) * bytes) 1099511627776, Nat.ble (len + n) 1099511627776 with
      | true, true => match Nat.ble (len + n) cap with
        | true => match slRow size s with
          | some (_, i, _) => match h.writeRows size b (i + len) new with
            | some h => some (.sl b o (len + n) cap, h)
            | none => none
          | none => none
        | false => match rowsOf h size s with
          | none => none
          | some old => some (.so h.n 0 (len + n) size, h.new (.rows size (old ++ new) false none none))
      | _, _ => none
    | .so b i len es =>
      match Nat.ble ((len + n) * bytes) 1099511627776, Nat.ble (len + n) 1099511627776 with
      | true, true => match h.get b with
        | some (.rows es' rs false p nx) => match Nat.beq es size, Nat.beq es' size with
          | true, true => match Nat.ble (i + len + n) (lenN rs) with
            | true => match h.writeRows size b (i + len) new with
              | some h => some (.so b i (len + n) es, h)
              | none => none
            | false =>
              -- in its place, or elsewhere: a new number; the elder one stays readable till one of the two is written
              match takeN (i + len) rs with
              | some rs' =>
                let h' := (h.kill p).kill nx
                some (.so h.n 0 (len + n) size, (h'.new (.rows size (dropN i rs' ++ new) false (some b) none)).put b (.rows es' rs' false none (some h.n)))
              | none => none
          | _, _ => none
        | _ => none
      | _, _ => none
    | _ => none

/-! operands -/
abbrev CallF := FuncId → List AV → H → Option (AV × H)

noncomputable def opnd (fr : T AV) : Operand → Option AV
  | .tmp t => fr.get t
  | .const v => absV v
  | .global _ => none
  | .func f => some (.fn f [])

noncomputable def opnds (fr : T AV) (l : List Operand) : Option (List AV) :=
  List.rec (some []) (fun x _ ih => match opnd fr x with
    | none => none
    | some v => match ih with
      | none => none
      | some vs => some (v :: vs)) l

noncomputable def partsOf (fr : T AV) (l : List (Nat × Operand)) : Option (List (Nat × AV)) :=
  List.rec (some []) (fun x _ ih => match opnd fr x.2 with
    | none => none
    | some v => match ih with
      | none => none
      | some vs => some ((x.1, v) :: vs)) l

noncomputable def optOp (fr : T AV) : Option Operand → Option (Option Int)
  | none => some none
  | some x => match opnd fr x with
    | some (.int _ n) => some (some n)
    | _ => none

def min2 : AV → AV → Option AV
  | .int k x, .int _ y => some (.int k (if y < x then y else x))
  | x, y => match ivl x, ivl y with
    | some (k, a, b), some (_, c, d) => some (.top (.int k (if c < a then c else a) (if d < b then d else b)))
    | _, _ => none
def max2 : AV → AV → Option AV
  | .int k x, .int _ y => some (.int k (if x < y then y else x))
  | x, y => match ivl x, ivl y with
    | some (k, a, b), some (_, c, d) => some (.top (.int k (if a < c then c else a) (if b < d then d else b)))
    | _, _ => none
def foldO (f : AV → AV → Option AV) : AV → List AV → Option AV
  | x, [] => some x
  | x, y :: r => match f x y with
    | some z => foldO f z r
    | none => none

/-! maps: keys that are numbers or texts; entries in the order in which they came -/
def keyEq : AV → AV → Option Bool
  | .str a, .str b => some (a == b)
  | .int k a, .int k' b => if k = k' then some (a == b) else none
  | _, _ => none
/-- a key's place and value -/
def findK (k : AV) : List (AV × AV) → Nat → Option (Option (Nat × AV))
  | [], _ => some none
  | e :: r, i => match keyEq k e.1 with
    | some true => some (some (i, e.2))
    | some false => findK k r (i + 1)
    | none => none
/-- may it be a key of that type -/
def keyIs : TK → AV → Bool
  | .str, .str _ => true
  | .int k, .int k' _ => decide (k = k')
  | _, _ => false

/-- a key is written -/
def updE (es : List (AV × AV)) (k v : AV) : Option (List (AV × AV)) :=
  match findK k es 0 with
  | some none => some (es ++ [(k, v)])
  | some (some (i, _)) => some (es.set i (k, v))
  | none => none
def delE (es : List (AV × AV)) (k : AV) : Option (List (AV × AV)) :=
  match findK k es 0 with
  | some none => some es
  | some (some (i, _)) => some (es.eraseIdx i)
  | none => none
def isTup : AV → Bool
  | .tup _ => true
  | _ => false

/-! the four classes of operations -/
inductive Cls where
  | pure | alloc | read | eff

def clsCall : Callee → Cls
  | .builtin .len => .read
  | .builtin .min => .pure
  | .builtin .max => .pure
  | _ => .eff

def cls : Op → Cls
  | .move _ | .assign _ | .pick .. | .build .. | .nilCheck _ | .binOp .. | .unOp .. | .makeFunc .. | .slice .. | .fieldAddr .. | .field .. | .indexAddr .. | .index .. | .extract .. => .pure
  | .alloc _ | .box .. | .buildSlice .. | .makeSlice .. => .alloc
  | .load .. | .convert .. | .lookup .. => .read
  | .call c => clsCall c.callee
  | _ => .eff

noncomputable def pureA (E : Env) (fr : T AV) : Op → Option AV
  | .move x => opnd fr x
  | .assign x => opnd fr x
  | .pick c a b => match opnd fr c with
    | some (.bool true) => opnd fr a
    | some (.bool false) => opnd fr b
    | _ => none
  | .build t ps => match E.tt.get t, partsOf fr ps.toList with
    | some ti, some vs => match ti.k with
      | .struct fs => match fillP (placeS fs E.tt) vs ti.zero with
        | some cs => some (.agg cs)
        | none => none
      | .arr _ e => match E.tt.get e with
        | some te => match fillP (fun i => some (i * te.size, te.size)) vs ti.zero with
          | some cs => some (.agg cs)
          | none => none
        | none => none
      | _ => none
    | _, _ => none
  | .nilCheck x => match opnd fr x with
    | some (.ptr b o) => some (.ptr b o)
    | some (.fn f c) => some (.fn f c)
    | _ => none
  | .binOp op t x y _ => match opnd fr x, opnd fr y with
    | some a, some b => binop E op t a b
    | _, _ => none
  | .unOp op _ x => match op, opnd fr x with
    | .not, some (.bool b) => some (.bool (!b))
    | .neg, some (.int k n) => some (.int k (k.wrap (0 - n)))
    | _, _ => none
  | .makeFunc (.func f) first cap => match opnds fr cap.toList with
    | some vs => match first.toList, vs.all AV.one with
      | [], true => some (.fn f vs)
      | _, _ => none
    | none => none
  | .slice t x lo hi mx => match opnd fr x, optOp fr lo, optOp fr hi, optOp fr mx with
    | some v, some lo, some hi, some mx => sliceOp E.tt t v lo hi mx
    | _, _, _, _ => none
  | .fieldAddr t x f => match E.tt.get t, opnd fr x with
    | some ti, some (.ptr b o) => match ti.k with
      | .struct fs => match nth fs f with
        | some (ft, off) => match E.tt.get ft with
          | some tf => match tf.size with
            | 0 => none
            | _ + 1 => some (.ptr b (o + off))
          | none => none
        | none => none
      | _ => none
    | _, _ => none
  | .field t x f => match E.tt.get t, opnd fr x with
    | some ti, some (.agg cs) => match ti.k with
      | .struct fs => match nth fs f with
        | some (ft, off) => match E.tt.get ft with
          | some tf => match takeN tf.size (dropN off cs) with
            | some c => mkV tf c
            | none => none
          | none => none
        | none => none
      | _ => none
    | _, _ => none
  | .indexAddr t x ix => match E.tt.get t, opnd fr x, opnd fr ix with
    | some ti, some v, some (.int _ i) => match natOf i with
      | some i => match ti.k, v with
        | .slice e, .sl b o len _ => match Nat.blt i len, E.tt.get e with
          | true, some te => some (.ptr b (o + i * te.size))
          | _, _ => none
        | .slice e, .so b r len es => match Nat.blt i len, E.tt.get e with
          | true, some te => match Nat.beq te.size es with
            | true => some (.ptr b ((r + i) * es))
            | false => none
          | _, _ => none
        | .arr n e, .ptr b o => match Nat.blt i n, E.tt.get e with
          | true, some te => some (.ptr b (o + i * te.size))
          | _, _ => none
        | _, _ => none
      | none => none
    | _, _, _ => none
  | .index t x ix => match E.tt.get t, opnd fr x, opnd fr ix with
    | some ti, some v, some (.int _ i) => match natOf i with
      | some i => match ti.k, v with
        | .str, .str s => match nth s i with
          | some c => some (.int .u8 c.toNat)
          | none => none
        | .arr n e, .agg cs => match Nat.blt i n, E.tt.get e with
          | true, some te => match takeN te.size (dropN (i * te.size) cs) with
            | some c => mkV te c
            | none => none
          | _, _ => none
        | _, _ => none
      | none => none
    | _, _, _ => none
  | .extract x i => match opnd fr x with
    | some (.tup vs) => nth vs i
    | _ => none
  | .call c => match c.callee with
    | .builtin b => match opnds fr c.args.toList with
      | none => none
      | some vs => match b, vs with
        | .min, x :: r => foldO min2 x r
        | .max, x :: r => foldO max2 x r
        | _, _ => none
    | _ => none
  | _ => none

noncomputable def allocA (E : Env) (fr : T AV) : Op → Option (Blk × (Nat → AV))
  | .alloc t => match E.tt.get t with
    | some ti => some (.rows ti.size [ti.zero] false none none, fun b => .ptr b 0)
    | none => none
  | .box t x => match E.tt.get t, opnd fr x with
    | some ti, some v => match v.cellsN ti.size with
      | some cs => some (.rows ti.size [cs] false none none, fun b => .ptr b 0)
      | none => none
    | _, _ => none
  | .buildSlice t len ps => match E.tt.get t, partsOf fr ps.toList with
    | some ti, some vs => match ti.k with
      | .slice e => match E.tt.get e with
        | some te => match te.size, Nat.ble (len * te.size) 65536 with
          | _ + 1, true => match fillR te.size vs (List.replicate len te.zero) with
            | some rs => some (.rows te.size rs false none none, fun b => .sl b 0 len len)
            | none => none
          | _, _ => none
        | none => none
      | _ => none
    | _, _ => none
  | .makeSlice t l c => match E.tt.get t, opnd fr l, opnd fr c with
    | some ti, some (.int _ l), some (.int _ c) => match ti.k, natOf l, natOf c with
      | .slice e, some l, some c => match E.tt.get e with
        | some te => match te.size, Nat.ble l c, Nat.ble (c * te.bytes) 1099511627776, Nat.ble c 1099511627776 with
          | _ + 1, true, true, true => some (.rows te.size (List.replicate c te.zero) false none none, fun b => .sl b 0 l c)
          | _, _, _, _ => none
        | none => none
      | _, _, _ => none
    | _, _, _ => none
  | _ => none

noncomputable def bytesOf (rs : List (List AV)) : Option (List UInt8) :=
  List.rec (some []) (fun r _ ih => match r, ih with
    | [.int .u8 n], some z => some (UInt8.ofNat n.toNat :: z)
    | _, _ => none) rs

noncomputable def readA (E : Env) (fr : T AV) (h : H) : Op → Option AV
  | .load t x => match E.tt.get t, opnd fr x with
    | some ti, some (.ptr b o) => match h.load b o ti.size with
      | some cs => mkV ti cs
      | none => none
    | _, _ => none
  | .convert src dst x => match E.tt.get src, E.tt.get dst, opnd fr x with
    | some si, some ti, some v => match ti.k, v with
      | .int k, .int _ n => some (.int k (k.wrap n))
      | .str, .str s => some (.str s)
      | .str, v => match si.k with
        | .slice e => match E.tt.get e with
          | some te => match te.k with
            | .int .u8 => match rowsOf h 1 v with
              | some rs => match bytesOf rs with
                | some s => some (.str s)
                | none => none
              | none => none
            | _ => none
          | none => none
        | _ => none
      | _, _ => none
    | _, _, _ => none
  | .lookup t x ix ok => match E.tt.get t, opnd fr x, opnd fr ix with
    | some ti, some (.mp b), some k => match ti.k with
      | .map kt et => match E.tt.get kt, E.tt.get et, h.get b with
        | some tk, some te, some (.map es) => match keyIs tk.k k, findK k es 0, mkV te te.zero with
          | true, some (some (_, v)), _ => some (match ok with | true => .tup [v, .bool true] | false => v)
          | true, some none, some z => some (match ok with | true => .tup [z, .bool false] | false => z)
          | _, _, _ => none
        | _, _, _ => none
      | _ => none
    | _, _, _ => none
  | .call c => match c.callee with
    | .builtin .len => match opnds fr c.args.toList with
      | some [x] => match c.argTypes.toList with
        | t :: _ => match E.tt.get t with
          | some ti => match ti.k, x with
            | .slice _, .nils => some (.int .i64 0)
            | .slice _, .sl _ _ n _ => some (.int .i64 n)
            | .slice _, .so _ _ n _ => some (.int .i64 n)
            | .str, .str s => some (.int .i64 (lenN s))
            | .slice _, .top .emp => some (.int .i64 0)
            | .slice _, .top (.sl a b) => some (.top (.int .i64 a b))
            | .str, .top (.str a b) => some (.top (.int .i64 a b))
            | .map .., .nilm => some (.int .i64 0)
            | .map .., .mp b => match h.get b with
              | some (.map es) => some (.int .i64 es.length)
              | _ => none
            | _, _ => none
          | none => none
        | [] => none
      | _ => none
    | _ => none
  | _ => none

noncomputable def sliceElem (E : Env) (ts : List TypeId) : Option TI :=
  match ts with
  | t :: _ => match E.tt.get t with
    | some ti => match ti.k with
      | .slice e => E.tt.get e
      | _ => none
    | none => none
  | [] => none

/-- append's second argument is a slice or a text -/
noncomputable def srcOk (E : Env) (ts : List TypeId) : Bool :=
  match ts with
  | _ :: t :: _ => match E.tt.get t with
    | some ti => match ti.k with
      | .slice _ => true
      | .str => true
      | _ => false
    | none => false
  | _ => false

/-- a key is taken out of a map -/
noncomputable def delM (E : Env) (h : H) (b : Builtin) (o : Option (List AV)) (ts : List TypeId) : Option (AV × H) :=
  match b, o, ts with
  | .delete, some [.mp m, k], t :: _ => match E.tt.get t with
    | some ti => match ti.k with
      | .map kt _ => match E.tt.get kt, h.get m with
        | some tk, some (.map es) => match keyIs tk.k k, delE es k with
          | true, some es' => some (.tup [], h.put m (.map es'))
          | _, _ => none
        | _, _ => none
      | _ => none
    | none => none
  | _, _, _ => none

noncomputable def effA (E : Env) (call : CallF) (fr : T AV) (h : H) : Op → Option (AV × H)
  | .store t a x => match E.tt.get t, opnd fr a, opnd fr x with
    | some ti, some (.ptr b o), some v => match v.cellsN ti.size with
      | some cs => match h.store b o cs with
        | some h => some (.tup [], h)
        | none => none
      | none => none
    | _, _, _ => none
  | .makeMap t r => match r, E.tt.get t with
    | none, some ti => match ti.k with
      | .map _ _ => some (.mp h.n, h.new (.map []))
      | _ => none
    | _, _ => none
  | .mapUpdate t m k x => match E.tt.get t, opnd fr m, opnd fr k, opnd fr x with
    | some ti, some (.mp b), some key, some v => match ti.k with
      | .map kt _ => match E.tt.get kt, h.get b with
        | some tk, some (.map es) => match keyIs tk.k key, isTup v, updE es key v with
          | true, false, some es' => some (.tup [], h.put b (.map es'))
          | _, _, _ => none
        | _, _ => none
      | _ => none
    | _, _, _, _ => none
  | .call c => match c.callee with
    | .value f => match opnd fr f, opnds fr c.args.toList with
      | some (.fn f cap), some vs => call f (vs ++ cap) h
      | _, _ => none
    | .invoke .. => none
    | .builtin b => match opnds fr c.args.toList, sliceElem E c.argTypes.toList with
      | some vs, some te => match b, vs with
        | .append, [s, x] => match srcOk E c.argTypes.toList with
          | true => appendOp h te.size te.bytes s x
          | false => none
        | .copy, [.nils, x] => match rowsOf h te.size x with
          | some _ => some (.int .i64 0, h)
          | none => none
        | .copy, [d, x] => match te.size, rowsOf h te.size x, slRow te.size d with
          | _ + 1, some new, some (b, i, len) => match h.writeRows te.size b i (new.take len) with
            | some h => some (.int .i64 (min (lenN new) len : Nat), h)
            | none => none
          | _, _, _ => none
        | .clear, [.nils] => some (.tup [], h)
        | .clear, [d] => match te.size, slRow te.size d with
          | _ + 1, some (b, i, len) => match h.writeRows te.size b i (List.replicate len te.zero) with
            | some h => some (.tup [], h)
            | none => none
          | _, _ => none
        | _, _ => none
      | o, _ => delM E h b o c.argTypes.toList
  | _ => none

noncomputable def execA (E : Env) (call : CallF) (fr : T AV) (h : H) (op : Op) : Option (AV × H) :=
  match cls op with
  | .pure => match pureA E fr op with
    | some v => some (v, h)
    | none => none
  | .read => match readA E fr h op with
    | some v => some (v, h)
    | none => none
  | .alloc => match allocA E fr op with
    | some (x, mk) => some (mk h.n, h.new x)
    | none => none
  | .eff => effA E call fr h op

/-! regions -/
noncomputable def wantedA (ops : List Oper) (fr : T AV) (o : Oper) : Option Bool :=
  match o.guard with
  | none => some true
  | some (j, want) => match nth ops j with
    | some g => match g.dst with
      | some d => match fr.get d with
        | some (.bool b) => some (b == want)
        | some (.tup []) => some false
        | _ => none
      | none => none
    | none => none

noncomputable def putD (fr : T AV) (d : Option Tmp) (v : AV) : T AV :=
  match d with
  | some d => fr.put d v
  | none => fr

noncomputable def runOps (E : Env) (call : CallF) (ops : List Oper) (l : List Oper) : T AV → H → Option (T AV × H) :=
  List.rec (fun fr h => some (fr, h)) (fun o _ ih fr h => match wantedA ops fr o with
    | some true => match execA E call fr h o.op with
      | some (v, h) => ih (putD fr o.dst v) h
      | none => none
    | some false => ih (putD fr o.dst (.tup [])) h
    | none => none) l

/-! a region that draws its order: what can be told of its text alone -/
/-- the numbers of the operations that come before each, in every order -/
def befs : List Oper → List Nat → List Nat
  | [], acc => acc
  | o :: r, acc => befs r (acc ++ [o.after.toList.foldl (fun s e => if Region.binds .any e then s ||| 2 ^ e.on ||| acc.getD e.on 0 else s) 0])

def isEff (o : Oper) : Bool := match cls o.op with | .eff => true | _ => false
def isRead (o : Oper) : Bool := match cls o.op with | .read => true | _ => false

/-- the slots that an operation looks at -/
def looks (ops : List Oper) (o : Oper) : List Tmp :=
  (o.op.operands.toList.filterMap fun | .tmp t => some t | _ => none) ++
  (match o.guard with
   | some (g, _) => ((ops[g]?).bind (·.dst)).toList
   | none => [])

/-- what is asked of the text: edges lead back; the effects are in one order; a slot is written once, and looked at behind that, or ahead of that by what is no read -/
def regGo (ops : List Oper) (bs : List Nat) : List Oper → (i : Nat) → Bool
  | [], _ => true
  | o :: r, i =>
    (o.after.toList.all fun e => !Region.binds .any e || Nat.blt e.on i) &&
    (match o.guard with
     | none => true
     | some (j, _) => Nat.testBit (bs.getD i 0) j) &&
    (!isEff o || (List.range i).all fun j => !((ops[j]?).any isEff) || Nat.testBit (bs.getD i 0) j) &&
    (match o.dst with
     | none => true
     | some d => (List.range i).all fun j => (ops[j]?).bind (·.dst) != some d) &&
    ((looks ops o).all fun t => (List.range ops.length).all fun j => (ops[j]?).bind (·.dst) != some t || (Nat.blt j i && Nat.testBit (bs.getD i 0) j) || (!isRead o && Nat.blt i j && Nat.testBit (bs.getD j 0) i)) &&
    regGo ops bs r (i + 1)

/-- how many effects lie ahead of place i -/
def effsTo (ops : List Oper) (i : Nat) : Nat := ((ops.take i).filter isEff).length

/-- which reads must be asked again, and behind how many effects -/
def floats (ops : List Oper) (bs : List Nat) : List (Nat × Nat) :=
  (List.range ops.length).flatMap fun i =>
    match ops[i]? with
    | none => []
    | some o =>
      if isRead o then
        let lo := ((List.range ops.length).filter fun j => (ops[j]?).any isEff && Nat.testBit (bs.getD i 0) j).length
        let hi := ((List.range ops.length).filter fun j => (ops[j]?).any isEff && !Nat.testBit (bs.getD j 0) i).length
        ((List.range (hi + 1 - lo)).map fun k => (lo + k, i)).filter fun (k, _) => !(Nat.beq k (effsTo ops i))
      else []

def regSt (ops : List Oper) : Option (List (Nat × Nat)) :=
  let bs := befs ops []
  if regGo ops bs ops 0 then some (floats ops bs) else none

/-- in the text's order; the heap ahead of each effect is kept; allocation number i takes base + i -/
noncomputable def runD (E : Env) (call : CallF) (ops : List Oper) (base : Nat) (l : List Oper) : Nat → T AV → H → Option (T AV × H × List H) :=
  List.rec (fun _ fr h => some (fr, h, [h])) (fun o _ ih i fr h =>
    match cls o.op with
    | .pure => match wantedA ops fr o with
      | some true => match pureA E fr o.op with
        | some v => ih (i + 1) (putD fr o.dst v) h
        | none => none
      | some false => ih (i + 1) (putD fr o.dst (.tup [])) h
      | none => none
    | .read => match wantedA ops fr o with
      | some true => match readA E fr h o.op with
        | some v => ih (i + 1) (putD fr o.dst v) h
        | none => none
      | some false => ih (i + 1) (putD fr o.dst (.tup [])) h
      | none => none
    | .alloc => match wantedA ops fr o with
      | some true => match allocA E fr o.op with
        | some (x, mk) => ih (i + 1) (putD fr o.dst (mk (base + i))) (h.put (base + i) x)
        | none => none
      | some false => ih (i + 1) (putD fr o.dst (.tup [])) h
      | none => none
    | .eff => match wantedA ops fr o with
      | some true => match effA E call fr h o.op with
        | some (v, h') => match ih (i + 1) (putD fr o.dst v) h' with
          | some (fr', h'', hs) => some (fr', h'', h :: hs)
          | none => none
        | none => none
      | some false => match ih (i + 1) (putD fr o.dst (.tup [])) h with
          | some (fr', h'', hs) => some (fr', h'', h :: hs)
          | none => none
      | none => none) l

mutual
def sameV : AV → AV → Bool
  | .bool a, .bool b => a == b
  | .int k a, .int k' b => decide (k = k') && decide (a = b)
  | .str a, .str b => a == b
  | .ptr b o, .ptr b' o' => Nat.beq b b' && Nat.beq o o'
  | .nilp, .nilp => true
  | .sl b o n c, .sl b' o' n' c' => Nat.beq b b' && Nat.beq o o' && Nat.beq n n' && Nat.beq c c'
  | .so b o n c, .so b' o' n' c' => Nat.beq b b' && Nat.beq o o' && Nat.beq n n' && Nat.beq c c'
  | .nils, .nils => true
  | .mp a, .mp b => Nat.beq a b
  | .nilm, .nilm => true
  | .fn f c, .fn f' c' => Nat.beq f f' && sameL c c'
  | .nilf, .nilf => true
  | .nili, .nili => true
  | .top .emp, .top .emp => true
  | .agg a, .agg b => sameL a b
  | .tup a, .tup b => sameL a b
  | _, _ => false
def sameL : List AV → List AV → Bool
  | [], [] => true
  | a :: x, b :: y => sameV a b && sameL x y
  | _, _ => false
end

/-- the reads that float tell the same -/
noncomputable def recheck (E : Env) (ops : List Oper) (fr : T AV) (hs : List H) (fl : List (Nat × Nat)) : Bool :=
  List.rec true (fun p _ ih => match nth hs p.1, nth ops p.2 with
    | some h, some o => match wantedA ops fr o with
      | some false => ih
      | some true => match readA E fr h o.op, o.dst with
        | some v, some d => match fr.get d with
          | some u => match sameV v u with
            | true => ih
            | false => false
          | none => false
        | _, _ => false
      | none => false
    | _, _ => false) fl

noncomputable def regionA (E : Env) (call : CallF) (ops : List Oper) (draw : Bool) (fr : T AV) (h : H) : Option (T AV × H) :=
  match draw with
  | false => runOps E call ops ops fr h
  | true => match regSt ops with
    | none => none
    | some fl => match runD E call ops h.n ops 0 fr ⟨h.t, h.n + lenN ops⟩ with
      | none => none
      | some (fr', h', hs) => match recheck E ops fr' hs fl with
        | true => some (fr', h')
        | false => none

/-! code -/
inductive Ex where
  | norm
  | exit (id : Nat)
  | ret

abbrev St := Option (Ex × T AV × H)

noncomputable def loopA (body : T AV → H → St) (n : Nat) : T AV → H → St :=
  Nat.rec (fun _ _ => none) (fun _ ih fr h => match body fr h with
    | none => none
    | some (.norm, fr, h) => ih fr h
    | some (.exit j, fr, h) => some (.exit j, fr, h)
    | some (.ret, fr, h) => some (.ret, fr, h)) n

noncomputable def codeA (E : Env) (call : CallF) (fuel : Nat) (c : Code) : T AV → H → St :=
  Code.rec (motive := fun _ => T AV → H → St)
    (fun fr h => some (.norm, fr, h))                                      -- skip
    (fun _ ops draw fr h => match regionA E call ops.toList draw fr h with       -- region
      | some (fr, h) => some (.norm, fr, h)
      | none => none)
    (fun _ _ ia ib fr h => match ia fr h with                              -- seq
      | none => none
      | some (.norm, fr, h) => ib fr h
      | some (.exit j, fr, h) => some (.exit j, fr, h)
      | some (.ret, fr, h) => some (.ret, fr, h))
    (fun c _ _ ia ib fr h => match opnd fr c with                          -- cond
      | some (.bool true) => ia fr h
      | some (.bool false) => ib fr h
      | _ => none)
    (fun id _ ia fr h => match ia fr h with                                -- block
      | none => none
      | some (.norm, fr, h) => some (.norm, fr, h)
      | some (.exit j, fr, h) => match Nat.beq j id with
        | true => some (.norm, fr, h)
        | false => some (.exit j, fr, h)
      | some (.ret, fr, h) => some (.ret, fr, h))
    (fun _ ia fr h => loopA ia fuel fr h)                                  -- loop
    (fun _ _ _ _ _ _ _ _ => none)                                         -- rangeFunc
    (fun id fr h => some (.exit id, fr, h))                                -- exit
    (fun _ ia fr h => ia fr h)                                             -- scope
    (fun _ fr h => some (.norm, fr, h))                                    -- label
    (fun _ _ _ => none)                                                    -- goto
    (fun fr h => some (.ret, fr, h))                                       -- ret
    (fun _ _ _ => none)                                                    -- refuse
    c

noncomputable def initFr (l : List AV) : Nat → T AV → T AV :=
  List.rec (fun _ t => t) (fun v _ ih i t => ih (i + 1) (t.put i v)) l

noncomputable def resA (E : Env) (fr : T AV) (h : H) (l : List ResultVar) : Option (List AV) :=
  List.rec (some []) (fun x _ ih => match (match x with
      | .tmp t => fr.get t
      | .cell a t => match E.tt.get t, fr.get a with
        | some ti, some (.ptr b o) => match h.load b o ti.size with
          | some cs => mkV ti cs
          | none => none
        | _, _ => none) with
    | some v => match ih with
      | some vs => some (v :: vs)
      | none => none
    | none => none) l

def AV.noTup : AV → Bool
  | .tup _ => false
  | _ => true

def oneOrTup : List AV → Option AV
  | [] => some (.tup [])
  | v :: r => match r with
    | [] => some v
    | _ :: _ => match v.noTup && r.all AV.noTup with
      | true => some (.tup (v :: r))
      | false => none

/-- what a call hands back -/
noncomputable def finishA (E : Env) (fn : Func) (fr : T AV) (h : H) : Option (AV × H) :=
  match resA E fr h fn.results.toList with
  | some vs => match oneOrTup vs with
    | some v => some (v, h)
    | none => none
  | none => none

/-- the slots that are written are there -/
def opsOk (n : Nat) : List Oper → Bool
  | [] => true
  | o :: r => (match o.dst with | some d => Nat.blt d n | none => true) && opsOk n r
def codeOk (n : Nat) : Code → Bool
  | .region _ ops _ => opsOk n ops.toList
  | .seq a b => codeOk n a && codeOk n b
  | .cond _ a b => codeOk n a && codeOk n b
  | .block _ a => codeOk n a
  | .loop a => codeOk n a
  | .scope a => codeOk n a
  | .label _ => true
  | .skip | .exit _ | .ret => true
  | _ => false

def notNG (fn : Func) : Bool := !(fn.name == "runtime.NumGoroutine")

noncomputable def callA (E : Env) (n : Nat) : CallF :=
  Nat.rec (fun _ _ _ => none) (fun m ih f args h => match E.ft.get f with
    | some fn => match fn.body with
      | some c => match codeOk fn.ntmps c && notNG fn, Nat.ble (lenN args) fn.ntmps with
        | true, true => match codeA E ih m c (initFr args 0 .nil) h with
          | some (.norm, fr, h) => finishA E fn fr h
          | some (.ret, fr, h) => finishA E fn fr h
          | _ => none
        | _, _ => none
      | none => none
    | none => none) n

end Go.Abs

/-
  THE RELATION between the abstract heap and the model's world, and small laws.
-/
namespace Go.Abs
open Go

/-! tries -/
theorem T.get_nil {α : Type} (n : Nat) : (T.nil : T α).get n = none := rfl
theorem T.get_node_zero {α : Type} (l r : T α) (v : Option α) : (T.node l v r).get 0 = v := rfl
theorem T.get_node_succ {α : Type} (l r : T α) (v : Option α) (m : Nat) : (T.node l v r).get (m + 1) = if m % 2 = 0 then l.get (m / 2) else r.get (m / 2) := by
  show (Nat.rec (l.get (m / 2)) (fun _ _ => r.get (m / 2)) (m % 2) : Option α) = _
  rcases h : m % 2 with _ | k
  · exact (if_pos rfl).symm
  · exact (if_neg (by omega)).symm

theorem T.setN_zero {α : Type} (v : Option α) (f : Nat) : T.setN v (f + 1) 0 = T.node .nil v .nil := rfl
theorem T.setN_succ {α : Type} (v : Option α) (f m : Nat) : T.setN v (f + 1) (m + 1) = if m % 2 = 0 then T.node (T.setN v f (m / 2)) none .nil else T.node .nil none (T.setN v f (m / 2)) := by
  show (Nat.rec (T.node (T.setN v f (m / 2)) none .nil) (fun _ _ => T.node .nil none (T.setN v f (m / 2))) (m % 2) : T α) = _
  rcases h : m % 2 with _ | k
  · exact (if_pos rfl).symm
  · exact (if_neg (by omega)).symm
theorem T.set_nil {α : Type} (v : Option α) (n : Nat) : T.set v .nil n = T.setN v (n + 1) n := rfl
theorem T.set_node_zero {α : Type} (v x : Option α) (l r : T α) : T.set v (.node l x r) 0 = .node l v r := rfl
theorem T.set_node_succ {α : Type} (v x : Option α) (l r : T α) (m : Nat) : T.set v (.node l x r) (m + 1) = if m % 2 = 0 then .node (T.set v l (m / 2)) x r else .node l x (T.set v r (m / 2)) := by
  show (Nat.rec (T.node (T.set v l (m / 2)) x r) (fun _ _ => T.node l x (T.set v r (m / 2))) (m % 2) : T α) = _
  rcases h : m % 2 with _ | k
  · exact (if_pos rfl).symm
  · exact (if_neg (by omega)).symm

theorem T.get_setN {α : Type} (v : Option α) : ∀ (f n m : Nat), n < f → (T.setN v f n).get m = if m = n then v else none := by
  intro f
  induction f with
  | zero => intro n m h; omega
  | succ f ih =>
    intro n m h
    cases n with
    | zero =>
      rw [T.setN_zero]
      cases m with
      | zero => simp [T.get_node_zero]
      | succ m => rw [T.get_node_succ]; simp [T.get_nil]
    | succ n =>
      rw [T.setN_succ]
      cases m with
      | zero => split <;> simp [T.get_node_zero]
      | succ m =>
        split
        · rw [T.get_node_succ, ih _ _ (by omega)]
          simp only [T.get_nil]
          split
          · by_cases e : m = n
            · subst e; simp
            · rw [if_neg (by omega), if_neg (by omega)]
          · rw [if_neg (by omega)]
        · rw [T.get_node_succ, ih _ _ (by omega)]
          simp only [T.get_nil]
          split
          · rw [if_neg (by omega)]
          · by_cases e : m = n
            · subst e; simp
            · rw [if_neg (by omega), if_neg (by omega)]

theorem T.get_set {α : Type} (v : Option α) (t : T α) : ∀ (n m : Nat), (T.set v t n).get m = if m = n then v else t.get m := by
  induction t with
  | nil => intro n m; rw [T.set_nil, T.get_setN _ _ _ _ (by omega)]; rfl
  | node l x r ihl ihr =>
    intro n m
    cases n with
    | zero =>
      rw [T.set_node_zero]
      cases m with
      | zero => simp [T.get_node_zero]
      | succ m => simp [T.get_node_succ]
    | succ n =>
      rw [T.set_node_succ]
      cases m with
      | zero => split <;> simp [T.get_node_zero]
      | succ m =>
        split
        · rw [T.get_node_succ, T.get_node_succ, ihl]
          split
          · by_cases e : m = n
            · subst e; simp
            · rw [if_neg (by omega), if_neg (by omega)]
          · rw [if_neg (by omega)]
        · rw [T.get_node_succ, T.get_node_succ, ihr]
          split
          · rw [if_neg (by omega)]
          · by_cases e : m = n
            · subst e; simp
            · rw [if_neg (by omega), if_neg (by omega)]

theorem T.get_put {α : Type} (t : T α) (n m : Nat) (v : α) : (t.put n v).get m = if m = n then some v else t.get m := T.get_set _ _ _ _

/-! lists -/
section lists
variable {α : Type}
theorem nth_eq (l : List α) : ∀ n, nth l n = l[n]? := by
  induction l with
  | nil => intro n; rfl
  | cons x r ih =>
    intro n
    cases n with
    | zero => rfl
    | succ n => exact (ih n).trans (by simp)
theorem dropN_eq (n : Nat) : ∀ l : List α, dropN n l = l.drop n := by
  induction n with
  | zero => intro l; rfl
  | succ n ih =>
    intro l
    cases l with
    | nil => rfl
    | cons x r => exact (ih r).trans (by simp)
theorem takeN_succ (n : Nat) (x : α) (r : List α) : takeN (n + 1) (x :: r) = match takeN n r with | some z => some (x :: z) | none => none := by
  show (Option.rec none (fun z => some (x :: z)) (takeN n r) : Option (List α)) = _
  cases takeN n r <;> rfl
theorem takeN_eq (n : Nat) : ∀ l z : List α, takeN n l = some z ↔ (n ≤ l.length ∧ z = l.take n) := by
  induction n with
  | zero => intro l z; show some [] = some z ↔ _; simp [eq_comm]
  | succ n ih =>
    intro l z
    cases l with
    | nil => show none = some z ↔ _; simp
    | cons x r =>
      rw [takeN_succ]
      cases h : takeN n r with
      | none =>
        have : ¬ n ≤ r.length := fun hh => by have := (ih r (r.take n)).2 ⟨hh, rfl⟩; rw [h] at this; cases this
        simp; omega
      | some y =>
        obtain ⟨h1, h2⟩ := (ih r y).1 h
        subst h2
        simp only [Option.some.injEq, List.length_cons, List.take_succ_cons]
        constructor
        · intro e; exact ⟨by omega, e.symm⟩
        · intro e; exact e.2.symm
theorem lenN_eq (l : List α) : lenN l = l.length := by
  induction l with
  | nil => rfl
  | cons x r ih => show Nat.succ (lenN r) = _; rw [ih]; rfl
theorem over_nil (l : List α) : over ([] : List α) l = some l := rfl
theorem over_cons (v : α) (vs : List α) (x : α) (r : List α) : over (v :: vs) (x :: r) = match over vs r with | some z => some (v :: z) | none => none := by
  show (Option.rec none (fun z => some (v :: z)) (over vs r) : Option (List α)) = _
  cases over vs r <;> rfl
theorem over_eq (vs : List α) : ∀ l z : List α, over vs l = some z ↔ (vs.length ≤ l.length ∧ z = vs ++ l.drop vs.length) := by
  induction vs with
  | nil => intro l z; rw [over_nil]; simp [eq_comm]
  | cons v vs ih =>
    intro l z
    cases l with
    | nil => show none = some z ↔ _; simp
    | cons x r =>
      rw [over_cons]
      cases h : over vs r with
      | none =>
        have : ¬ vs.length ≤ r.length := fun hh => by have := (ih r _).2 ⟨hh, rfl⟩; rw [h] at this; cases this
        simp; omega
      | some y =>
        obtain ⟨h1, h2⟩ := (ih r y).1 h
        subst h2
        simp only [Option.some.injEq, List.length_cons, List.drop_succ_cons, List.cons_append]
        constructor
        · intro e; exact ⟨by omega, e.symm⟩
        · intro e; exact e.2.symm
theorem atN_zero (f : List α → Option (List α)) (l : List α) : atN f 0 l = f l := rfl
theorem atN_succ (f : List α → Option (List α)) (n : Nat) (x : α) (r : List α) : atN f (n + 1) (x :: r) = match atN f n r with | some z => some (x :: z) | none => none := by
  show (Option.rec none (fun z => some (x :: z)) (atN f n r) : Option (List α)) = _
  cases atN f n r <;> rfl
theorem atN_eq (f : List α → Option (List α)) (n : Nat) : ∀ l z : List α, atN f n l = some z ↔ (n ≤ l.length ∧ ∃ y, f (l.drop n) = some y ∧ z = l.take n ++ y) := by
  induction n with
  | zero => intro l z; rw [atN_zero]; simp
  | succ n ih =>
    intro l z
    cases l with
    | nil => show none = some z ↔ _; simp
    | cons x r =>
      rw [atN_succ]
      cases h : atN f n r with
      | none =>
        simp only [List.length_cons, List.drop_succ_cons, List.take_succ_cons, reduceCtorEq, false_iff, not_and, not_exists]
        intro hl y hy
        have := (ih r (r.take n ++ y)).2 ⟨by omega, y, hy, rfl⟩
        rw [h] at this; cases this
      | some y =>
        obtain ⟨h1, w, h2, h3⟩ := (ih r y).1 h
        subst h3
        simp only [Option.some.injEq, List.length_cons, List.drop_succ_cons, List.take_succ_cons, List.cons_append]
        constructor
        · intro e; exact ⟨by omega, w, h2, e.symm⟩
        · rintro ⟨_, w', h2', rfl⟩
          rw [h2] at h2'; cases h2'; rfl
/-- a place of a list written over from n on -/
theorem atN_over {vs l z : List α} {n : Nat} (h : atN (over vs) n l = some z) :
    n + vs.length ≤ l.length ∧ z = l.take n ++ vs ++ l.drop (n + vs.length) := by
  obtain ⟨h1, y, h2, h3⟩ := (atN_eq _ _ _ _).1 h
  obtain ⟨h4, h5⟩ := (over_eq _ _ _).1 h2
  subst h3 h5
  simp only [List.length_drop] at h4
  refine ⟨by omega, ?_⟩
  rw [List.drop_drop, List.append_assoc]
theorem atN_over_get {vs l z : List α} {n : Nat} (h : atN (over vs) n l = some z) (i : Nat) :
    z[i]? = if i < n then l[i]? else if i < n + vs.length then vs[i - n]? else l[i]? := by
  obtain ⟨h1, h2⟩ := atN_over h
  subst h2
  have hl : (l.take n).length = n := by simp; omega
  rw [List.append_assoc]
  split
  · rw [List.getElem?_append_left (by omega)]; rw [List.getElem?_take]; simp [*]
  · rw [List.getElem?_append_right (by omega), hl]
    split
    · rw [List.getElem?_append_left (by omega)]
    · rw [List.getElem?_append_right (by omega), List.getElem?_drop]
      congr 1; omega
theorem atN_over_len {vs l z : List α} {n : Nat} (h : atN (over vs) n l = some z) : z.length = l.length := by
  obtain ⟨h1, h2⟩ := atN_over h
  subst h2
  simp; omega
end lists

/-! where an abstract block lies: a block of the world's, the cell at which it begins, how many rows there are from there on, how wide they are -/
structure Loc where
  blk : Nat
  off : Nat
  room : Nat
  es : Nat

abbrev Pl := Nat → Option Loc

def Top.has : Top → Value → Prop
  | .int k a b, v => ∃ n, v = .int k n ∧ a ≤ n ∧ n ≤ b
  | .str a b, v => ∃ s, v = .string s ∧ a ≤ s.size ∧ s.size ≤ b
  | .sl a b, v => (a = 0 ∧ v = .slice none 0 0) ∨ ∃ x n c, v = .slice (some x) n c ∧ a ≤ n ∧ n ≤ b
  | .bool, v => ∃ b, v = .bool b
  | .emp, v => ∃ x c, v = .slice (some x) 0 c

theorem Top.oneCell {q : Top} {v : Value} (h : q.has v) : v.oneCell' = true := by
  cases q <;> simp only [Top.has] at h
  · obtain ⟨_, rfl, _⟩ := h; rfl
  · obtain ⟨_, rfl, _⟩ := h; rfl
  · obtain ⟨_, rfl⟩ | ⟨_, _, _, rfl, _⟩ := h <;> rfl
  · obtain ⟨_, rfl⟩ := h; rfl
  · obtain ⟨_, _, rfl⟩ := h; rfl

mutual
/-- a value of one cell -/
def VS (ρ : Pl) : AV → Value → Prop
  | .bool b, v => v = .bool b
  | .int k n, v => v = .int k n
  | .str s, v => v = .string ⟨s.toArray⟩
  | .ptr b o, v => ∃ l, ρ b = some l ∧ v = .pointer (some ⟨l.blk, l.off + o, none⟩)
  | .nilp, v => v = .pointer none
  | .sl b o len cap, v => ∃ l, ρ b = some l ∧ v = .slice (some ⟨l.blk, l.off + o, none⟩) len cap
  | .so b i len es, v => ∃ l, ρ b = some l ∧ (l.es = es ∧ 0 < es ∧ i + len ≤ l.room ∧
      (v = .slice (some ⟨l.blk, l.off + i * es, none⟩) len (l.room - i) ∨ (len = 0 ∧ l.room = i ∧ ∃ x, v = .slice (some ⟨l.blk, x, none⟩) 0 0)))
  | .nils, v => v = .slice none 0 0
  | .mp b, v => ∃ l, ρ b = some l ∧ v = .map (some l.blk)
  | .nilm, v => v = .map none
  | .fn f cap, v => ∃ l, VL ρ cap l ∧ v = .func (.func f) #[] l.toArray
  | .nilf, v => v = .nilFunc
  | .nili, v => v = .nilIface
  | .agg _, _ => False
  | .tup _, _ => False
  | .top q, v => q.has v
def VL (ρ : Pl) : List AV → List Value → Prop
  | [], l => l = []
  | a :: r, l => ∃ v l', VS ρ a v ∧ VL ρ r l' ∧ l = v :: l'
end

/-- a value that is no tuple -/
def V1 (ρ : Pl) : AV → Value → Prop
  | .agg cs, v => ∃ l, VL ρ cs l ∧ v = .agg l.toArray
  | a, v => VS ρ a v
def VM (ρ : Pl) : List AV → List Value → Prop
  | [], l => l = []
  | a :: r, l => ∃ v l', V1 ρ a v ∧ VM ρ r l' ∧ l = v :: l'
def VR (ρ : Pl) : AV → Value → Prop
  | .tup vs, v => ∃ l, VM ρ vs l ∧ v = .tuple l.toArray
  | a, v => V1 ρ a v

def Ext (ρ ρ' : Pl) : Prop := ∀ b l, ρ b = some l → ρ' b = some l
theorem Ext.refl (ρ : Pl) : Ext ρ ρ := fun _ _ h => h
theorem Ext.trans {a b c : Pl} (h : Ext a b) (k : Ext b c) : Ext a c := fun _ _ e => k _ _ (h _ _ e)

mutual
theorem VS.mono {ρ ρ' : Pl} (he : Ext ρ ρ') : ∀ (a : AV) (v : Value), VS ρ a v → VS ρ' a v
  | .bool b, v, h => h
  | .int k n, v, h => h
  | .str s, v, h => h
  | .ptr b o, v, h => by obtain ⟨l, h1, h2⟩ := h; exact ⟨l, he _ _ h1, h2⟩
  | .nilp, v, h => h
  | .sl b o len cap, v, h => by obtain ⟨l, h1, h2⟩ := h; exact ⟨l, he _ _ h1, h2⟩
  | .so b i len es, v, h => by obtain ⟨l, h1, h2⟩ := h; exact ⟨l, he _ _ h1, h2⟩
  | .nils, v, h => h
  | .mp b, v, h => by obtain ⟨l, h1, h2⟩ := h; exact ⟨l, he _ _ h1, h2⟩
  | .nilm, v, h => h
  | .fn f cap, v, h => by obtain ⟨l, h1, h2⟩ := h; exact ⟨l, VL.mono he _ _ h1, h2⟩
  | .nilf, v, h => h
  | .nili, v, h => h
  | .agg _, _, h => h
  | .tup _, _, h => h
  | .top _, _, h => h
theorem VL.mono {ρ ρ' : Pl} (he : Ext ρ ρ') : ∀ (a : List AV) (v : List Value), VL ρ a v → VL ρ' a v
  | [], _, h => h
  | a :: r, l, h => by
    obtain ⟨v, l', h1, h2, h3⟩ := h
    exact ⟨v, l', VS.mono he _ _ h1, VL.mono he _ _ h2, h3⟩
end
theorem V1.mono {ρ ρ' : Pl} (he : Ext ρ ρ') (a : AV) (v : Value) (h : V1 ρ a v) : V1 ρ' a v := by
  cases a <;> simp only [V1] at h ⊢ <;> first | exact VS.mono he _ _ h | (obtain ⟨l, h1, h2⟩ := h; exact ⟨l, VL.mono he _ _ h1, h2⟩)
theorem VM.mono {ρ ρ' : Pl} (he : Ext ρ ρ') : ∀ (a : List AV) (v : List Value), VM ρ a v → VM ρ' a v
  | [], _, h => h
  | a :: r, l, h => by
    obtain ⟨v, l', h1, h2, h3⟩ := h
    exact ⟨v, l', V1.mono he _ _ h1, VM.mono he _ _ h2, h3⟩
theorem VR.mono {ρ ρ' : Pl} (he : Ext ρ ρ') (a : AV) (v : Value) (h : VR ρ a v) : VR ρ' a v := by
  cases a <;> simp only [VR] at h ⊢ <;> first | exact V1.mono he _ _ h | (obtain ⟨l, h1, h2⟩ := h; exact ⟨l, VM.mono he _ _ h1, h2⟩)

theorem VL.length {ρ : Pl} : ∀ {a : List AV} {l : List Value}, VL ρ a l → l.length = a.length
  | [], _, h => by subst h; rfl
  | a :: r, l, h => by obtain ⟨v, l', _, h2, rfl⟩ := h; simp [VL.length h2]
theorem VL.get {ρ : Pl} : ∀ {a : List AV} {l : List Value}, VL ρ a l → ∀ {i : Nat} {x : AV}, a[i]? = some x → ∃ v, l[i]? = some v ∧ VS ρ x v
  | [], _, _, i, x, hx => by simp at hx
  | a :: r, l, h, i, x, hx => by
    obtain ⟨v, l', h1, h2, rfl⟩ := h
    cases i with
    | zero => simp at hx; subst hx; exact ⟨v, rfl, h1⟩
    | succ i => simp at hx ⊢; exact VL.get h2 hx
theorem VL.get' {ρ : Pl} : ∀ {a : List AV} {l : List Value}, VL ρ a l → ∀ {i : Nat} {v : Value}, l[i]? = some v → ∃ x, a[i]? = some x ∧ VS ρ x v
  | [], _, h, i, v, hv => by subst h; simp at hv
  | a :: r, l, h, i, v, hv => by
    obtain ⟨u, l', h1, h2, rfl⟩ := h
    cases i with
    | zero => simp at hv; subst hv; exact ⟨a, rfl, h1⟩
    | succ i => simp at hv ⊢; exact VL.get' h2 hv
theorem VL.mk {ρ : Pl} : ∀ {a : List AV} {l : List Value}, a.length = l.length → (∀ (i : Nat) (x : AV) (v : Value), a[i]? = some x → l[i]? = some v → VS ρ x v) → VL ρ a l
  | [], [], _, _ => rfl
  | [], _ :: _, h, _ => by simp at h
  | _ :: _, [], h, _ => by simp at h
  | a :: r, v :: l, h, k => ⟨v, l, k 0 a v rfl rfl, VL.mk (by simpa using h) (fun i x u hx hu => k (i + 1) x u (by simpa using hx) (by simpa using hu)), rfl⟩
theorem VL.append {ρ : Pl} : ∀ {a b : List AV} {l m : List Value}, VL ρ a l → VL ρ b m → VL ρ (a ++ b) (l ++ m)
  | [], b, l, m, h, k => by subst h; exact k
  | a :: r, b, l, m, h, k => by
    obtain ⟨v, l', h1, h2, rfl⟩ := h
    exact ⟨v, l' ++ m, h1, VL.append h2 k, rfl⟩
theorem VL.take {ρ : Pl} {a : List AV} {l : List Value} (h : VL ρ a l) (n : Nat) : VL ρ (a.take n) (l.take n) := by
  refine VL.mk (by have := h.length; simp; omega) fun i x v hx hv => ?_
  rw [List.getElem?_take] at hx hv
  split at hx
  · rename_i hi
    rw [if_pos hi] at hv
    obtain ⟨u, hu, hs⟩ := h.get hx
    rw [hv] at hu; cases hu; exact hs
  · cases hx
theorem VL.drop {ρ : Pl} {a : List AV} {l : List Value} (h : VL ρ a l) (n : Nat) : VL ρ (a.drop n) (l.drop n) := by
  refine VL.mk (by have := h.length; simp; omega) fun i x v hx hv => ?_
  rw [List.getElem?_drop] at hx hv
  obtain ⟨u, hu, hs⟩ := h.get hx
  rw [hv] at hu; cases hu; exact hs
theorem VS.oneCell {ρ : Pl} {a : AV} {v : Value} (h : VS ρ a v) : v.oneCell' = true := by
  cases a <;> simp only [VS] at h <;> first
    | exact Top.oneCell h
    | (subst h; rfl)
    | (obtain ⟨l, h1, h2⟩ := h; subst h2; rfl)
    | exact h.elim
    | skip
  obtain ⟨l, h1, _, _, _, h | ⟨_, _, x, h⟩⟩ := h <;> subst h <;> rfl
theorem V1.of_VS {ρ : Pl} {a : AV} {v : Value} (h : VS ρ a v) : V1 ρ a v := by
  cases a <;> first | exact h | exact h.elim
theorem VR.of_V1 {ρ : Pl} {a : AV} {v : Value} (h : V1 ρ a v) : VR ρ a v := by
  cases a <;> first | exact h | exact (h : False).elim
/-- the cells of a value -/
theorem cellsN_sound {ρ : Pl} {a : AV} {v : Value} {n : Nat} {cs : List AV} (h : VR ρ a v) (hc : a.cellsN n = some cs) : VL ρ cs v.cells.toList ∧ cs.length = n ∧ v.cells.size = n := by
  have one : ∀ (a : AV) (v : Value), VS ρ a v → VL ρ [a] v.cells.toList ∧ [a].length = 1 ∧ v.cells.size = 1 := by
    intro a v h
    have hs := VS.oneCell h
    have e : v.cells = #[v] := by cases v <;> first | rfl | (simp [Value.oneCell'] at hs)
    rw [e]
    exact ⟨⟨v, [], h, rfl, rfl⟩, rfl, rfl⟩
  unfold AV.cellsN at hc
  split at hc
  · cases hc
  · split at hc
    · rename_i hl
      cases hc
      obtain ⟨l, h1, rfl⟩ := h
      have : cs.length = n := by rw [lenN_eq] at hl; simpa using hl
      refine ⟨by simpa [Value.cells] using h1, this, ?_⟩
      simp [Value.cells, h1.length, this]
    · cases hc
  · split at hc
    · cases hc
      refine one _ _ ?_
      cases a <;> first | exact h | (exfalso; simp_all; done)
    · cases hc
theorem VM.length {ρ : Pl} : ∀ {a : List AV} {l : List Value}, VM ρ a l → l.length = a.length
  | [], _, h => by subst h; rfl
  | a :: r, l, h => by obtain ⟨v, l', _, h2, rfl⟩ := h; simp [VM.length h2]
theorem VM.get {ρ : Pl} : ∀ {a : List AV} {l : List Value}, VM ρ a l → ∀ {i : Nat} {x : AV}, a[i]? = some x → ∃ v, l[i]? = some v ∧ V1 ρ x v
  | [], _, _, i, x, hx => by simp at hx
  | a :: r, l, h, i, x, hx => by
    obtain ⟨v, l', h1, h2, rfl⟩ := h
    cases i with
    | zero => simp at hx; subst hx; exact ⟨v, rfl, h1⟩
    | succ i => simp at hx ⊢; exact VM.get h2 hx

/-! the program's own values -/
theorem absS_VS {v : Value} {a : AV} (ρ : Pl) (h : absS v = some a) : VS ρ a v := by
  unfold absS at h
  split at h <;> first | (simp only [Option.some.injEq] at h; subst h; simp [VS]) | cases h
theorem absL_VL {ρ : Pl} : ∀ {vs : List Value} {l : List AV}, absL vs = some l → VL ρ l vs
  | [], l, h => by simp [absL] at h; subst h; rfl
  | v :: r, l, h => by
    simp only [absL] at h
    split at h <;> try cases h
    rename_i a ha
    split at h <;> try cases h
    rename_i m hm
    exact ⟨v, r, absS_VS ρ ha, absL_VL hm, rfl⟩
theorem absV_VR {v : Value} {a : AV} (ρ : Pl) (h : absV v = some a) : VR ρ a v := by
  unfold absV at h
  split at h
  · split at h <;> try cases h
    rename_i l hl
    exact ⟨_, absL_VL hl, by simp⟩
  · split at h
    · rename_i hl
      simp only [Option.some.injEq] at h; subst h
      rename_i vs
      exact ⟨[], rfl, by rw [← hl]⟩
    · cases h
  · exact VR.of_V1 (V1.of_VS (absS_VS ρ h))

end Go.Abs

/-
  Abstract heap against world: the relation R, what a step keeps (Post), and what the tables tell.
-/
namespace Go.Abs
open Go

/-! type information -/
def aggOf : TypeDesc → Bool
  | .struct _ | .array _ _ => true
  | _ => false
structure TIok (P : Program) (t : TypeId) (ti : TI) (i : TypeInfo) (z : Value) (d : TypeDesc) : Prop where
  info : P.info? t = some i
  size : i.size = ti.size
  bytes : i.bytes = ti.bytes
  zero : i.zero = some z
  zcells : ∀ ρ, VL ρ ti.zero z.cells.toList
  und : P.underlying t = some d
  agg : ti.agg = aggOf d
  k : ti.k = tkOf d
  zlen : ti.zero.length = ti.size
  flat : ti.flat = flatU P t
  fields : fieldsOk P d = true
  zok : zOk d z = true

theorem absZ_VL {v : Value} {l : List AV} (ρ : Pl) (h : absZ v = some l) : VL ρ l v.cells.toList := by
  unfold absZ at h
  split at h
  · simpa [Value.cells] using absL_VL h
  · split at h
    · rename_i a ha
      simp only [Option.some.injEq] at h; subst h
      have hs := absS_VS ρ ha
      have := (cellsN_sound (n := 1) (cs := [a]) (VR.of_V1 (V1.of_VS hs)) (by cases a <;> first | rfl | exact hs.elim)).1
      exact this
    · cases h

theorem tiOf_ok {P : Program} {t : TypeId} {ti : TI} (h : tiOf P t = some ti) : ∃ i z d, TIok P t ti i z d := by
  unfold tiOf at h
  split at h
  · cases h
  · rename_i i hi
    split at h
    · cases h
    · rename_i z hz
      split at h
      · cases h
      · rename_i a ha
        split at h
        · cases h
        · rename_i hl
          split at h
          · cases h
          · rename_i d hd
            split at h
            · cases h
            rename_i hfo
            split at h
            · cases h
            rename_i hzo
            simp only [Option.some.injEq] at h
            subst h
            have hlt : t < P.types.size := (Array.getElem?_eq_some_iff.1 hi).1
            exact ⟨i, z, d, by simp only [Tables.info?, hlt, if_true]; exact hi, rfl, rfl, hz, fun ρ => absZ_VL ρ ha, hd, by cases d <;> rfl, rfl, by simpa using hl, rfl, hfo, hzo⟩

section
variable {P : Program} {t : TypeId} {ti : TI} {i : TypeInfo} {z : Value} {d : TypeDesc} (w : World)
theorem TIok.run_info (h : TIok P t ti i z d) : (typeInfo t).run P w = .ok i w := by
  simp [typeInfo, h.info]
theorem TIok.run_und (h : TIok P t ti i z d) : (underlying t).run P w = .ok d w := by
  simp [underlying, h.und]
theorem TIok.run_size (h : TIok P t ti i z d) : (sizeOf t).run P w = .ok ti.size w := by
  simp [sizeOf, h.run_info w, h.size]
theorem TIok.run_zero (h : TIok P t ti i z d) : (zeroValue t).run P w = .ok z w := by
  simp [zeroValue, h.run_info w, h.zero]
theorem TIok.run_agg (h : TIok P t ti i z d) : (isAgg t).run P w = .ok ti.agg w := by
  rw [h.agg]
  cases d <;> simp [isAgg, h.run_und w, aggOf]
end

/-! the tables of an environment tell what the program has -/
structure EnvOk (P : Program) (E : Env) : Prop where
  mixed : P.follows .mixedOrders = true
  tt : ∀ t ti, E.tt.get t = some ti → ∃ i z d, TIok P t ti i z d
  ft : ∀ f fn, E.ft.get f = some fn → P.funcs[f]? = some fn

theorem mkTT_get {P : Program} : ∀ (n t : Nat) (ti : TI), (mkTT P n).get t = some ti → tiOf P t = some ti := by
  intro n
  induction n with
  | zero => intro t ti h; cases h
  | succ n ih =>
    intro t ti h
    have e : mkTT P (n + 1) = (Option.rec (mkTT P n) (fun i => (mkTT P n).put n i) (tiOf P n) : T TI) := rfl
    rw [e] at h
    cases hi : tiOf P n with
    | none => rw [hi] at h; exact ih _ _ h
    | some i =>
      rw [hi] at h
      simp only [T.get_put] at h
      split at h
      · rename_i e; subst e; rw [hi]; exact h
      · exact ih _ _ h

theorem mkFT_get : ∀ (l : List Func) (n f : Nat) (fn : Func), (mkFT l n).get f = some fn → n ≤ f ∧ l[f - n]? = some fn := by
  intro l
  induction l with
  | nil => intro n f fn h; cases h
  | cons x r ih =>
    intro n f fn h
    have e : mkFT (x :: r) n = (mkFT r (n + 1)).put n x := rfl
    rw [e, T.get_put] at h
    split at h
    · rename_i e; subst e; exact ⟨Nat.le_refl _, by simpa using h⟩
    · obtain ⟨h1, h2⟩ := ih _ _ _ h
      refine ⟨by omega, ?_⟩
      obtain ⟨k, rfl⟩ : ∃ k, f = n + 1 + k := ⟨f - (n + 1), by omega⟩
      have e1 : n + 1 + k - n = k + 1 := by omega
      have e2 : n + 1 + k - (n + 1) = k := by omega
      rw [e1]; rw [e2] at h2; simpa using h2

theorem envOk_mk (P : Program) (n : Nat) (hm : P.follows .mixedOrders = true) : EnvOk P ⟨mkTT P n, mkFT P.funcs.toList 0⟩ :=
  ⟨hm, fun t ti h => tiOf_ok (mkTT_get n t ti h), fun f fn h => by
    have := (mkFT_get _ _ _ _ h).2
    simpa using this⟩

/-! the relation -/
structure RowsOk (ρ : Pl) (w : World) (l : Loc) (es : Nat) (rs : List (List AV)) : Prop where
  width : ∀ (i : Nat) (r : List AV), rs[i]? = some r → r.length = es
  cell : ∀ (i j : Nat) (r : List AV) (v : AV), rs[i]? = some r → r[j]? = some v → ∃ u, VS ρ v u ∧ w.cell? ⟨l.blk, l.off + i * es + j, none⟩ = some u

structure RowsMay (w : World) (l : Loc) (es : Nat) (n : Nat) : Prop where
  wide : l.es = es
  free : ∀ o, o < l.room * es → w.frozen? ⟨l.blk, l.off + o, none⟩ = false
  there : ∀ o, o < l.room * es → ∃ u, w.cell? ⟨l.blk, l.off + o, none⟩ = some u
  room : n ≤ l.room

/-- entries of a map -/
def EntsOk (ρ : Pl) : List (AV × AV) → List MapEntry → Prop
  | [], l => l = []
  | e :: r, l => ∃ m l', l = m :: l' ∧ V1 ρ e.1 m.key ∧ V1 ρ e.2 m.val ∧ EntsOk ρ r l'
def MapOk (ρ : Pl) (w : World) (l : Loc) (es : List (AV × AV)) : Prop := ∃ arr clock, w.heap[l.blk]? = some (.map arr clock) ∧ EntsOk ρ es arr.toList
theorem EntsOk.mono {ρ ρ' : Pl} (he : Ext ρ ρ') : ∀ {es : List (AV × AV)} {l : List MapEntry}, EntsOk ρ es l → EntsOk ρ' es l
  | [], _, h => h
  | _ :: _, _, ⟨m, l', h1, h2, h3, h4⟩ => ⟨m, l', h1, V1.mono he _ _ h2, V1.mono he _ _ h3, EntsOk.mono he h4⟩
theorem MapOk.keep {ρ ρ' : Pl} {w w' : World} {l : Loc} {es : List (AV × AV)} (h : MapOk ρ w l es) (he : Ext ρ ρ') (hb : w'.heap[l.blk]? = w.heap[l.blk]?) : MapOk ρ' w' l es := by
  obtain ⟨arr, clock, h1, h2⟩ := h
  exact ⟨arr, clock, by rw [hb]; exact h1, h2.mono he⟩
def BlkOk (ρ : Pl) (w : World) (l : Loc) : Blk → Prop
  | .rows es rs ro _ _ => RowsOk ρ w l es rs ∧ (ro = false → RowsMay w l es rs.length)
  | .dead => True
  | .map es => MapOk ρ w l es

def Blk.live : Blk → Bool
  | .dead => false
  | _ => true
def Blk.mine : Blk → Bool
  | .rows _ _ ro _ _ => !ro
  | .dead => false
  | .map _ => true
def Blk.prev : Blk → Option Nat
  | .rows _ _ _ p _ => p
  | .dead => none
  | .map _ => none
def Blk.next : Blk → Option Nat
  | .rows _ _ _ _ n => n
  | .dead => none
  | .map _ => none

structure R (ρ : Pl) (h : H) (w : World) : Prop where
  blk : ∀ b l x, ρ b = some l → h.get b = some x → BlkOk ρ w l x
  sep : ∀ b c l m x y, b ≠ c → ρ b = some l → ρ c = some m → h.get b = some x → h.get c = some y → x.live = true → y.live = true → l.blk = m.blk →
    (x.mine = false ∧ y.mine = false) ∨ x.prev = some c ∨ x.next = some c
  fresh : ∀ b, h.n ≤ b → h.get b = none ∧ ρ b = none
  inh : ∀ b l, ρ b = some l → l.blk < w.heap.size
  links : ∀ b l x c, ρ b = some l → h.get b = some x → (x.prev = some c ∨ x.next = some c) → (ρ c).isSome ∧ c < h.n ∧ (h.get c).isSome

def Own (ρ : Pl) (h : H) (c : Nat) : Prop := ∃ b l x, ρ b = some l ∧ h.get b = some x ∧ x.mine = true ∧ l.blk = c

structure Post (ρ : Pl) (h : H) (w : World) (ρ' : Pl) (h' : H) (w' : World) : Prop where
  ext : Ext ρ ρ'
  rel : R ρ' h' w'
  size : w.heap.size ≤ w'.heap.size
  keep : ∀ c, c < w.heap.size → ¬ Own ρ h c → w'.heap[c]? = w.heap[c]?
  own : ∀ c, c < w.heap.size → Own ρ' h' c → Own ρ h c
  new : ∀ b l, ρ b = none → ρ' b = some l → h.n ≤ b ∧ (w.heap.size ≤ l.blk ∨ Own ρ h l.blk)
  unborn : ∀ b, ρ b = none → b < h.n → h'.get b = h.get b
  absent : ∀ b, b < h.n → h.get b = none → h'.get b = none
  mono : h.n ≤ h'.n
  tape : w'.tape = w.tape
  os : w'.os = w.os
  output : w'.output = w.output

theorem Post.refl {ρ : Pl} {h : H} {w : World} (hr : R ρ h w) : Post ρ h w ρ h w :=
  ⟨Ext.refl _, hr, Nat.le_refl _, fun _ _ _ => rfl, fun _ _ h => h, (fun b l h1 h2 => by rw [h1] at h2; cases h2), fun _ _ _ => rfl, fun _ _ h => h, Nat.le_refl _, rfl, rfl, rfl⟩

theorem Post.trans {ρ ρ1 ρ2 : Pl} {h h1 h2 : H} {w w1 w2 : World} (a : Post ρ h w ρ1 h1 w1) (b : Post ρ1 h1 w1 ρ2 h2 w2) : Post ρ h w ρ2 h2 w2 where
  ext := a.ext.trans b.ext
  rel := b.rel
  size := Nat.le_trans a.size b.size
  keep := fun c hc hn => (b.keep c (Nat.lt_of_lt_of_le hc a.size) (fun ho => hn (a.own c hc ho))).trans (a.keep c hc hn)
  own := fun c hc ho => a.own c hc (b.own c (Nat.lt_of_lt_of_le hc a.size) ho)
  new := fun x l h0 h2 => by
    cases h1' : ρ1 x with
    | some l1 =>
      have := b.ext _ _ h1'
      rw [h2] at this; cases this
      exact a.new _ _ h0 h1'
    | none =>
      obtain ⟨n1, n2⟩ := b.new _ _ h1' h2
      refine ⟨Nat.le_trans a.mono n1, ?_⟩
      rcases n2 with n2 | n2
      · exact .inl (Nat.le_trans a.size n2)
      · by_cases hlt : l.blk < w.heap.size
        · exact .inr (a.own _ hlt n2)
        · exact .inl (by omega)
  unborn := fun x h0 hx => by
    have e : ρ1 x = none := by
      cases h1' : ρ1 x with
      | none => rfl
      | some l => have := (a.new _ _ h0 h1').1; omega
    rw [b.unborn x e (Nat.lt_of_lt_of_le hx a.mono), a.unborn x h0 hx]
  absent := fun x hx h0 => b.absent x (Nat.lt_of_lt_of_le hx a.mono) (a.absent x hx h0)
  mono := Nat.le_trans a.mono b.mono
  tape := b.tape.trans a.tape
  os := b.os.trans a.os
  output := b.output.trans a.output

/-- a draw: nothing but a count of the world's turns -/
theorem R.world {ρ : Pl} {h : H} {w w' : World} (hr : R ρ h w) (hh : w'.heap = w.heap) : R ρ h w' := by
  have hc : ∀ a, w'.cell? a = w.cell? a := fun a => by simp [World.cell?, hh]
  have hf : ∀ a, w'.frozen? a = w.frozen? a := fun a => by simp [World.frozen?, hh]
  refine ⟨fun b l x h1 h2 => ?_, hr.sep, hr.fresh, fun b l h1 => by rw [hh]; exact hr.inh b l h1, hr.links⟩
  have := hr.blk b l x h1 h2
  cases x with
  | dead => trivial
  | map es => exact MapOk.keep this (Ext.refl _) (by rw [hh])
  | rows es rs ro p n =>
    obtain ⟨k1, k2⟩ := this
    refine ⟨⟨k1.width, fun i j r v hi hj => by rw [hc]; exact k1.cell i j r v hi hj⟩, fun hro => ?_⟩
    obtain ⟨m1, m2, m3, m4⟩ := k2 hro
    exact ⟨m1, fun o ho => by rw [hf]; exact m2 o ho, fun o ho => by rw [hc]; exact m3 o ho, m4⟩

theorem Post.world {ρ ρ' : Pl} {h h' : H} {w w1 w' : World} (hp : Post ρ h w ρ' h' w') (h1 : w1.heap = w.heap) (ht : w1.tape = w.tape) (ho : w1.os = w.os) (hu : w1.output = w.output) : Post ρ h w1 ρ' h' w' := by
  refine ⟨hp.ext, hp.rel, by rw [h1]; exact hp.size, fun c => by rw [h1]; exact hp.keep c, fun c => by rw [h1]; exact hp.own c, fun b l => by rw [h1]; exact hp.new b l, hp.unborn, hp.absent, hp.mono, hp.tape.trans ht.symm, hp.os.trans ho.symm, hp.output.trans hu.symm⟩

/-- rows stay where the block they lie in stays -/
theorem RowsOk.keep {ρ ρ' : Pl} {w w' : World} {l : Loc} {es : Nat} {rs : List (List AV)} (h : RowsOk ρ w l es rs) (he : Ext ρ ρ') (hb : w'.heap[l.blk]? = w.heap[l.blk]?) : RowsOk ρ' w' l es rs :=
  ⟨h.width, fun i j r v hi hj => by
    obtain ⟨u, h1, h2⟩ := h.cell i j r v hi hj
    exact ⟨u, h1.mono he, by rw [World.cell?_of_block (w := w) (by exact hb)]; exact h2⟩⟩
theorem RowsMay.keep {w w' : World} {l : Loc} {es n : Nat} (h : RowsMay w l es n) (hb : w'.heap[l.blk]? = w.heap[l.blk]?) : RowsMay w' l es n :=
  ⟨h.wide, fun o ho => by rw [World.frozen?_of_block (w := w) (by exact hb)]; exact h.free o ho,
   fun o ho => by rw [World.cell?_of_block (w := w) (by exact hb)]; exact h.there o ho, h.room⟩
theorem BlkOk.keep {ρ ρ' : Pl} {w w' : World} {l : Loc} {x : Blk} (h : BlkOk ρ w l x) (he : Ext ρ ρ') (hb : w'.heap[l.blk]? = w.heap[l.blk]?) : BlkOk ρ' w' l x := by
  cases x with
  | dead => trivial
  | map es => exact MapOk.keep h he hb
  | rows es rs ro p n => exact ⟨h.1.keep he hb, fun hro => (h.2 hro).keep hb⟩

theorem H.get_put (h : H) (b c : Nat) (x : Blk) : (h.put b x).get c = if c = b then some x else h.get c := T.get_put _ _ _ _
theorem H.get_new (h : H) (c : Nat) (x : Blk) : (h.new x).get c = if c = h.n then some x else h.get c := T.get_put _ _ _ _
theorem H.get_kill (h : H) (p : Option Nat) (c : Nat) : (h.kill p).get c = if p = some c then some .dead else h.get c := by
  cases p with
  | none => simp [H.kill]
  | some b => simp only [H.kill, H.get, T.get_put, Option.some.injEq]; by_cases e : c = b <;> simp [e, eq_comm]
@[simp] theorem H.n_put (h : H) (b : Nat) (x : Blk) : (h.put b x).n = h.n := rfl
@[simp] theorem H.n_new (h : H) (x : Blk) : (h.new x).n = h.n + 1 := rfl
@[simp] theorem H.n_kill (h : H) (p : Option Nat) : (h.kill p).n = h.n := by cases p <;> rfl

/-- a place more -/
def Pl.add (ρ : Pl) (b : Nat) (l : Loc) : Pl := fun c => if c = b then some l else ρ c
theorem Pl.ext_add {ρ : Pl} {b : Nat} {l : Loc} (h : ρ b = none) : Ext ρ (ρ.add b l) := fun c m hc => by
  unfold Pl.add
  split
  · rename_i e; subst e; rw [h] at hc; cases hc
  · exact hc

end Go.Abs

/-
  Births and writes: what they do to the relation.
-/
namespace Go.Abs
open Go

theorem Own.of_ext {ρ : Pl} {h : H} {c : Nat} (ho : Own ρ h c) : Own ρ h c := ho

/-- a new block, under a number that was free -/
theorem R.birth {ρ : Pl} {h h' : H} {w w' : World} {b : Nat} {l : Loc} {x : Blk} (hr : R ρ h w) (hb : ρ b = none) (hbn : b < h'.n) (hn : h.n ≤ h'.n)
    (hold : ∀ c, c < w.heap.size → w'.heap[c]? = w.heap[c]?) (hsz : w.heap.size ≤ w'.heap.size) (hl : w.heap.size ≤ l.blk) (hl' : l.blk < w'.heap.size)
    (hx : h'.get b = some x) (hg : ∀ c, c ≠ b → h'.get c = h.get c) (hok : BlkOk (ρ.add b l) w' l x) (hp : x.prev = none) (hnx : x.next = none) : R (ρ.add b l) h' w' := by
  have he := Pl.ext_add (ρ := ρ) (l := l) hb
  have hρ : ∀ c m, c ≠ b → ρ.add b l c = some m → ρ c = some m := fun c m hc h1 => by simpa [Pl.add, hc] using h1
  have hρb : ∀ m, ρ.add b l b = some m → m = l := fun m h1 => by simpa [Pl.add, eq_comm] using h1
  refine ⟨fun c m y h1 h2 => ?_, fun c d m k y z hcd h1 h2 h3 h4 h5 h6 h7 => ?_, fun c hc => ?_, fun c m h1 => ?_, fun c m y d h1 h2 h3 => ?_⟩
  · by_cases hc : c = b
    · subst hc
      rw [hρb _ h1]; rw [hx] at h2; cases h2; exact hok
    · rw [hg c hc] at h2
      have := hρ c m hc h1
      exact (hr.blk _ _ _ this h2).keep he (hold _ (hr.inh _ _ this))
  · by_cases hc : c = b
    · subst hc
      have hd : d ≠ c := fun e => hcd e.symm
      have e1 := hρb _ h1
      have := hr.inh _ _ (hρ d k hd h2)
      subst e1; omega
    · by_cases hd : d = b
      · subst hd
        have e1 := hρb _ h2
        have := hr.inh _ _ (hρ c m hc h1)
        subst e1; omega
      · rw [hg c hc] at h3; rw [hg d hd] at h4
        exact hr.sep c d m k y z hcd (hρ c m hc h1) (hρ d k hd h2) h3 h4 h5 h6 h7
  · have hc' : c ≠ b := fun e => by omega
    obtain ⟨k1, k2⟩ := hr.fresh c (Nat.le_trans hn hc)
    exact ⟨by rw [hg c hc']; exact k1, by simp [Pl.add, hc', k2]⟩
  · by_cases hc : c = b
    · subst hc; rw [hρb _ h1]; exact hl'
    · exact Nat.lt_of_lt_of_le (hr.inh _ _ (hρ c m hc h1)) hsz
  · by_cases hc : c = b
    · subst hc
      rw [hx] at h2; cases h2
      rw [hp, hnx] at h3; simp at h3
    · rw [hg c hc] at h2
      obtain ⟨k1, k2, k3⟩ := hr.links c m y d (hρ c m hc h1) h2 h3
      refine ⟨?_, Nat.lt_of_lt_of_le k2 hn, ?_⟩
      case refine_2 =>
        by_cases hd : d = b
        · subst hd; rw [hx]; rfl
        · rw [hg d hd]; exact k3
      obtain ⟨q, hq⟩ := Option.isSome_iff_exists.1 k1
      rw [he _ _ hq]; rfl

theorem Own.birth {ρ : Pl} {h h' : H} {w : World} {b c : Nat} {l : Loc} (hl : w.heap.size ≤ l.blk) (hc : c < w.heap.size)
    (hg : ∀ c, c ≠ b → h'.get c = h.get c) (ho : Own (ρ.add b l) h' c) : Own ρ h c := by
  obtain ⟨d, m, y, h1, h2, h3, h4⟩ := ho
  by_cases hd : d = b
  · subst hd
    have : m = l := by simpa [Pl.add, eq_comm] using h1
    subst this; omega
  · exact ⟨d, m, y, by simpa [Pl.add, hd] using h1, by rw [← hg d hd]; exact h2, h3, h4⟩

/-- a new block under the next number -/
theorem Post.birth {ρ : Pl} {h : H} {w w' : World} {l : Loc} {x : Blk} (hr : R ρ h w)
    (hold : ∀ c, c < w.heap.size → w'.heap[c]? = w.heap[c]?) (hsz : w.heap.size ≤ w'.heap.size) (hl : w.heap.size ≤ l.blk) (hl' : l.blk < w'.heap.size)
    (hok : BlkOk (ρ.add h.n l) w' l x) (hp : x.prev = none) (hnx : x.next = none) (ht : w'.tape = w.tape) (ho : w'.os = w.os) (hu : w'.output = w.output) :
    Post ρ h w (ρ.add h.n l) (h.new x) w' := by
  have hb := (hr.fresh h.n (Nat.le_refl _)).2
  have hg : ∀ c, c ≠ h.n → (h.new x).get c = h.get c := fun c hc => by rw [H.get_new, if_neg hc]
  refine ⟨Pl.ext_add hb, hr.birth hb (by simp) (by simp) hold hsz hl hl' (by rw [H.get_new, if_pos rfl]) hg hok hp hnx, hsz, fun c hc _ => hold c hc, fun c hc hw => Own.birth hl hc hg hw, fun b m h1 h2 => ?_, fun b h1 h2 => hg b (by omega), fun b h1 h2 => by rw [hg b (by omega)]; exact h2, by simp, ht, ho, hu⟩
  by_cases hb' : b = h.n
  · subst hb'
    have : m = l := by simpa [Pl.add, eq_comm] using h2
    subst this; exact ⟨Nat.le_refl _, .inl hl⟩
  · simp [Pl.add, hb', h1] at h2

/-- a block is written -/
theorem Post.write {ρ : Pl} {h : H} {w w' : World} {b : Nat} {l : Loc} {es : Nat} {rs rs' : List (List AV)} {p nx : Option Nat} (hr : R ρ h w) (hb : ρ b = some l)
    (hx : h.get b = some (.rows es rs false p nx)) (hold : ∀ c, c ≠ l.blk → w'.heap[c]? = w.heap[c]?) (hsz : w'.heap.size = w.heap.size)
    (hok : RowsOk ρ w' l es rs') (hmay : RowsMay w' l es rs'.length) (ht : w'.tape = w.tape) (ho : w'.os = w.os) (hu : w'.output = w.output) :
    Post ρ h w ρ (((h.kill p).kill nx).put b (.rows es rs' false none none)) w' := by
  have hget : ∀ c, (((h.kill p).kill nx).put b (.rows es rs' false none none)).get c =
      if c = b then some (.rows es rs' false none none) else if nx = some c then some .dead else if p = some c then some .dead else h.get c := fun c => by
    rw [H.get_put, H.get_kill, H.get_kill]
  have hbn : b < h.n := by
    rcases Nat.lt_or_ge b h.n with h1 | h1
    · exact h1
    · have := (hr.fresh b h1).2; rw [hb] at this; cases this
  have halive : ∀ c y, c ≠ b → (((h.kill p).kill nx).put b (.rows es rs' false none none)).get c = some y → y.live = true → h.get c = some y ∧ p ≠ some c ∧ nx ≠ some c := fun c y hc h1 h2 => by
    rw [hget, if_neg hc] at h1
    split at h1
    · cases h1; cases h2
    · split at h1
      · cases h1; cases h2
      · exact ⟨h1, by assumption, by assumption⟩
  have hmine : (Blk.rows es rs false p nx).mine = true := rfl
  have hne : ∀ c m y, c ≠ b → ρ c = some m → (((h.kill p).kill nx).put b (.rows es rs' false none none)).get c = some y → y.live = true → m.blk ≠ l.blk := fun c m y hc h1 h2 h3 he => by
    obtain ⟨k1, k2, k3⟩ := halive c y hc h2 h3
    have := hr.sep b c l m _ y (fun e => hc e.symm) hb h1 hx k1 rfl h3 he.symm
    rcases this with ⟨q, _⟩ | q | q
    · rw [hmine] at q; cases q
    · exact k2 q
    · exact k3 q
  have hrel : R ρ (((h.kill p).kill nx).put b (.rows es rs' false none none)) w' := by
    refine ⟨fun c m y h1 h2 => ?_, fun c d m k y z hcd h1 h2 h3 h4 h5 h6 h7 => ?_, fun c hc => ?_, fun c m h1 => by rw [hsz]; exact hr.inh _ _ h1, fun c m y d h1 h2 h3 => ?_⟩
    · by_cases hc : c = b
      · subst hc
        rw [hb] at h1; cases h1
        rw [hget, if_pos rfl] at h2; cases h2
        exact ⟨hok, fun _ => hmay⟩
      · cases hy : y.live with
        | false => cases y <;> first | trivial | (cases hy)
        | true =>
          obtain ⟨k1, k2, k3⟩ := halive c y hc h2 hy
          exact (hr.blk _ _ _ h1 k1).keep (Ext.refl _) (hold _ (hne c m y hc h1 h2 hy))
    · by_cases hc : c = b
      · subst hc
        rw [hb] at h1; cases h1
        exact absurd h7.symm (hne d k z (fun e => hcd e.symm) h2 h4 h6)
      · by_cases hd : d = b
        · subst hd
          rw [hb] at h2; cases h2
          exact absurd h7 (hne c m y hc h1 h3 h5)
        · obtain ⟨k1, _, _⟩ := halive c y hc h3 h5
          obtain ⟨k2, _, _⟩ := halive d z hd h4 h6
          exact hr.sep c d m k y z hcd h1 h2 k1 k2 h5 h6 h7
    · have hc' : h.n ≤ c := by simpa using hc
      obtain ⟨k1, k2⟩ := hr.fresh c hc'
      refine ⟨?_, k2⟩
      rw [hget, if_neg (by omega)]
      split
      · rename_i e
        have := (hr.links b l _ c hb hx (.inr e)).2.1; omega
      · split
        · rename_i e
          have := (hr.links b l _ c hb hx (.inl e)).2.1; omega
        · exact k1
    · by_cases hc : c = b
      · subst hc
        rw [hget, if_pos rfl] at h2; cases h2
        simp [Blk.prev, Blk.next] at h3
      · cases hy : y.live with
        | false => cases y <;> first | (simp [Blk.prev, Blk.next] at h3; done) | (cases hy)
        | true =>
          obtain ⟨k1, _, _⟩ := halive c y hc h2 hy
          obtain ⟨q1, q2, q3⟩ := hr.links c m y d h1 k1 h3
          refine ⟨q1, by simpa using q2, ?_⟩
          rw [hget]
          split
          · rfl
          · split
            · rfl
            · split
              · rfl
              · exact q3
  refine ⟨Ext.refl _, hrel, by omega, fun c _ hn => hold c (fun e => hn ⟨b, l, _, hb, hx, hmine, e.symm⟩), fun c _ hw => ?_, (fun c m h1 h2 => by rw [h1] at h2; cases h2), fun c h1 h2 => ?_, fun c h1 h2 => ?_, by simp, ht, ho, hu⟩
  · obtain ⟨d, m, y, h1, h2, h3, h4⟩ := hw
    by_cases hd : d = b
    · subst hd
      rw [hb] at h1; cases h1
      exact ⟨d, l, _, hb, hx, hmine, h4⟩
    · have hl : y.live = true := by cases y <;> first | rfl | (cases h3)
      exact ⟨d, m, y, h1, (halive d y hd h2 hl).1, h3, h4⟩
  · rw [hget, if_neg (fun e => by subst e; rw [hb] at h1; cases h1)]
    split
    · rename_i e
      have := (hr.links b l _ c hb hx (.inr e)).1; rw [h1] at this; cases this
    · split
      · rename_i e
        have := (hr.links b l _ c hb hx (.inl e)).1; rw [h1] at this; cases this
      · rfl
  · rw [hget, if_neg (fun e => by subst e; rw [hx] at h2; cases h2)]
    split
    · rename_i e
      have := (hr.links b l _ c hb hx (.inr e)).2.2; rw [h2] at this; cases this
    · split
      · rename_i e
        have := (hr.links b l _ c hb hx (.inl e)).2.2; rw [h2] at this; cases this
      · exact h2

/-! a row of cells written -/
def setCells (w : World) (b off : Nat) : List Value → World
  | [] => w
  | v :: r => setCells (w.setCell ⟨b, off, none⟩ v) b (off + 1) r

theorem setCells_heap (b : Nat) : ∀ (vs : List Value) (off : Nat) (w : World) (c : Nat), c ≠ b → (setCells w b off vs).heap[c]? = w.heap[c]? := by
  intro vs
  induction vs with
  | nil => intro off w c h; rfl
  | cons v r ih =>
    intro off w c h
    rw [setCells, ih _ _ _ h]
    exact heap_setCell_other w _ c v h
theorem setCells_size (b : Nat) : ∀ (vs : List Value) (off : Nat) (w : World), (setCells w b off vs).heap.size = w.heap.size := by
  intro vs
  induction vs with
  | nil => intro off w; rfl
  | cons v r ih => intro off w; rw [setCells, ih]; simp
theorem setCells_rest (b : Nat) : ∀ (vs : List Value) (off : Nat) (w : World), (setCells w b off vs).tape = w.tape ∧ (setCells w b off vs).os = w.os ∧ (setCells w b off vs).output = w.output ∧ ∀ a, (setCells w b off vs).frozen? a = w.frozen? a := by
  intro vs
  induction vs with
  | nil => intro off w; exact ⟨rfl, rfl, rfl, fun _ => rfl⟩
  | cons v r ih =>
    intro off w
    obtain ⟨h1, h2, h3, h4⟩ := ih (off + 1) (w.setCell ⟨b, off, none⟩ v)
    rw [setCells]
    exact ⟨h1.trans rfl, h2.trans rfl, h3.trans rfl, fun a => (h4 a).trans (by simp)⟩
theorem setCells_cell (b : Nat) : ∀ (vs : List Value) (off : Nat) (w : World), (∀ j, j < vs.length → ∃ u, w.cell? ⟨b, off + j, none⟩ = some u) →
    ∀ o, (setCells w b off vs).cell? ⟨b, o, none⟩ = if off ≤ o ∧ o < off + vs.length then vs[o - off]? else w.cell? ⟨b, o, none⟩ := by
  intro vs
  induction vs with
  | nil => intro off w h o; rw [if_neg (by simp only [List.length_nil]; omega)]; rfl
  | cons v r ih =>
    intro off w h o
    obtain ⟨u, hu⟩ := h 0 (by simp)
    rw [Nat.add_zero] at hu
    rw [setCells, ih]
    · by_cases e : o = off
      · subst e
        rw [if_neg (by omega), if_pos (by simp), World.cell?_setCell_same _ _ _ hu]
        simp
      · have hne : (⟨b, off, none⟩ : Addr) ≠ ⟨b, o, none⟩ := fun hh => e (by cases hh; rfl)
        rw [World.cell?_setCell_other _ _ _ _ hne]
        by_cases c : off + 1 ≤ o ∧ o < off + 1 + r.length
        · rw [if_pos c, if_pos (by simp; omega)]
          obtain ⟨k, rfl⟩ : ∃ k, o = off + 1 + k := ⟨o - (off + 1), by omega⟩
          have e1 : off + 1 + k - (off + 1) = k := by omega
          have e2 : off + 1 + k - off = k + 1 := by omega
          rw [e1, e2]; simp
        · rw [if_neg c, if_neg (by simp; omega)]
    · intro j hj
      by_cases e : off + 1 + j = off
      · omega
      · obtain ⟨x, hx⟩ := h (j + 1) (by simp; omega)
        refine ⟨x, ?_⟩
        have hne : (⟨b, off, none⟩ : Addr) ≠ ⟨b, off + 1 + j, none⟩ := fun hh => e (by injection hh with _ h2; omega)
        rw [World.cell?_setCell_other _ _ _ _ hne]
        rw [show off + 1 + j = off + (j + 1) from by omega]; exact hx

theorem add_plain (b o n : Nat) : (⟨b, o, none⟩ : Addr).add n = ⟨b, o + n, none⟩ := by
  unfold Addr.add
  split
  · rename_i e; subst e; simp
  · rfl

theorem run_storeCells {P : Program} (b : Nat) : ∀ (vs : List Value) (off i : Nat) (w : World), (∀ j, j < vs.length → ∃ u, w.cell? ⟨b, off + i + j, none⟩ = some u) →
    (∀ j, j < vs.length → w.frozen? ⟨b, off + i + j, none⟩ = false) → (∀ v ∈ vs, v.oneCell' = true) →
    (storeCells ⟨b, off, none⟩ vs i).run P w = .ok () (setCells w b (off + i) vs) := by
  intro vs
  induction vs with
  | nil => intro off i w _ _ _; rfl
  | cons v r ih =>
    intro off i w h hf hv
    obtain ⟨u, hu⟩ := h 0 (by simp)
    have hfz := hf 0 (by simp)
    rw [Nat.add_zero] at hu hfz
    simp only [storeCells, add_plain, Sem.run_bind]
    rw [run_store P w _ v _ (hv v (by simp))]
    simp only [hu, hfz, Bool.false_eq_true, if_false, Result.andThen_ok]
    rw [ih off (i + 1)]
    · rfl
    · intro j hj
      obtain ⟨x, hx⟩ := h (j + 1) (by simp; omega)
      refine ⟨x, ?_⟩
      have hne : (⟨b, off + i, none⟩ : Addr) ≠ ⟨b, off + (i + 1) + j, none⟩ := fun hh => by injection hh with _ h2; omega
      rw [World.cell?_setCell_other _ _ _ _ hne, show off + (i + 1) + j = off + i + (j + 1) from by omega]; exact hx
    · intro j hj
      rw [World.frozen?_setCell, show off + (i + 1) + j = off + i + (j + 1) from by omega]
      exact hf (j + 1) (by simp; omega)
    · intro x hx; exact hv x (by simp [hx])

end Go.Abs

/-
  MAPS: keys that are numbers or texts; entries in the order in which they came. What is looked up, written and taken out.
-/
namespace Go.Abs
open Go Go.MapKept

section
variable {P : Program} {ρ : Pl} {w : World}
theorem sameNow_sound {d : TypeDesc} {k a : AV} {K A : Value} {b : Bool} (hd : keyIs (tkOf d) k = true) (h : keyEq k a = some b) (hk : V1 ρ k K) (ha : V1 ρ a A) : Instr.sameNow d K A = some b := by
  cases k <;> cases a <;> simp only [keyEq] at h <;> try (cases h; done)
  · rename_i n x n' y
    split at h
    · rename_i e
      subst e
      simp only [Option.some.injEq] at h
      subst h
      have h1 : K = .int n x := hk
      have h2 : A = .int n y := ha
      subst h1 h2
      cases d <;> simp only [tkOf, keyIs] at hd <;> first
        | (exact absurd hd (by decide))
        | (simp [Instr.sameNow])
    · cases h
  · rename_i x y
    simp only [Option.some.injEq] at h
    subst h
    have h1 : K = .string ⟨x.toArray⟩ := hk
    have h2 : A = .string ⟨y.toArray⟩ := ha
    subst h1 h2
    have hb : ((ByteArray.mk x.toArray) == ⟨y.toArray⟩) = (x == y) := by
      show (x.toArray == y.toArray) = (x == y)
      simp
    cases d <;> simp only [tkOf, keyIs] at hd <;> first
      | (exact absurd hd (by decide))
      | (simp [Instr.sameNow, hb])
theorem findK_sound {d : TypeDesc} {k : AV} {K : Value} (hd : keyIs (tkOf d) k = true) (hk : V1 ρ k K) : ∀ {es : List (AV × AV)} {l : List MapEntry} {i : Nat} {r : Option (Nat × AV)}, EntsOk ρ es l → findK k es i = some r →
    (r = none ∧ Instr.findNow d K l i = some none) ∨ ∃ j v V, r = some (i + j, v) ∧ Instr.findNow d K l i = some (some (i + j, V)) ∧ V1 ρ v V ∧ (∃ a, es[j]? = some (a, v)) ∧ (∃ m, l[j]? = some m ∧ m.val = V)
  | [], l, i, r, he, h => by
    have : l = [] := he
    subst this
    simp only [findK, Option.some.injEq] at h
    exact .inl ⟨h.symm, rfl⟩
  | e :: es, _, i, r, ⟨m, l', hl, h1, h2, h3⟩, h => by
    subst hl
    simp only [findK] at h
    split at h
    · rename_i hq
      simp only [Option.some.injEq] at h
      subst h
      refine .inr ⟨0, e.2, m.val, rfl, ?_, h2, ⟨e.1, rfl⟩, ⟨m, rfl, rfl⟩⟩
      simp only [Instr.findNow, sameNow_sound hd hq hk h1, Nat.add_zero]
    · rename_i hq
      have hs := sameNow_sound hd hq hk h1
      rcases findK_sound hd hk h3 h with ⟨q1, q2⟩ | ⟨j, v, V, q1, q2, q3, q4, q5⟩
      · exact .inl ⟨q1, by simp only [Instr.findNow, hs]; exact q2⟩
      · have ej : i + 1 + j = i + (j + 1) := by omega
        rw [ej] at q1 q2
        exact .inr ⟨j + 1, v, V, q1, by simp only [Instr.findNow, hs]; exact q2, q3, by simpa using q4, by simpa using q5⟩
    · cases h
theorem isKey_of {d : TypeDesc} {k : AV} {K : Value} (hd : keyIs (tkOf d) k = true) (hk : V1 ρ k K) : IsKey d K := by
  cases k with
  | int kk n =>
    have h1 : K = .int kk n := hk
    subst h1
    cases d <;> simp only [tkOf, keyIs] at hd <;> first
      | (exact absurd hd (by decide))
      | (have := of_decide_eq_true hd; subst this; simp [IsKey])
  | str x =>
    have h1 : K = .string ⟨x.toArray⟩ := hk
    subst h1
    cases d <;> simp only [tkOf, keyIs] at hd <;> first
      | (exact absurd hd (by decide))
      | (simp [IsKey])
  | _ => cases d <;> exact absurd hd (by simp [tkOf, keyIs])
theorem key_v1 {tk : TK} {k : AV} {K : Value} (hd : keyIs tk k = true) (hk : VR ρ k K) : V1 ρ k K := by
  cases k with
  | int kk n => exact hk
  | str x => exact hk
  | _ => cases tk <;> exact absurd hd (by simp [keyIs])
theorem v1_vr {v : AV} {V : Value} (h : V1 ρ v V) : VR ρ v V := by
  cases v with
  | tup vs => exact absurd h (by simp [V1, VS])
  | _ => exact h
theorem vr_v1 {v : AV} {V : Value} (ht : isTup v = false) (h : VR ρ v V) : V1 ρ v V := by
  cases v with
  | tup vs => cases ht
  | _ => exact h
/-- a block of one's own that has no neighbours is written over -/
theorem Post.over {h : H} {w w' : World} {b : Nat} {l : Loc} {x y : Blk} (hr : R ρ h w) (hb : ρ b = some l)
    (hx : h.get b = some x) (xl : x.live = true) (xm : x.mine = true) (xp : x.prev = none) (xn : x.next = none) (yl : y.live = true) (ym : y.mine = true) (yp : y.prev = none) (yn : y.next = none)
    (hold : ∀ c, c ≠ l.blk → w'.heap[c]? = w.heap[c]?) (hsz : w'.heap.size = w.heap.size)
    (hok : BlkOk ρ w' l y) (ht : w'.tape = w.tape) (ho : w'.os = w.os) (hu : w'.output = w.output) :
    Post ρ h w ρ (h.put b y) w' := by
  have hget : ∀ c, (h.put b y).get c = if c = b then some y else h.get c := fun c => H.get_put _ _ _ _
  have hbn : b < h.n := by
    rcases Nat.lt_or_ge b h.n with h1 | h1
    · exact h1
    · have := (hr.fresh b h1).2; rw [hb] at this; cases this
  have hne : ∀ c m z, c ≠ b → ρ c = some m → h.get c = some z → z.live = true → m.blk ≠ l.blk := fun c m z hc h1 h2 h3 he => by
    have := hr.sep b c l m _ z (fun e => hc e.symm) hb h1 hx h2 xl h3 he.symm
    rcases this with ⟨q, _⟩ | q | q
    · rw [xm] at q; cases q
    · rw [xp] at q; cases q
    · rw [xn] at q; cases q
  have hrel : R ρ (h.put b y) w' := by
    refine ⟨fun c m z h1 h2 => ?_, fun c d m k z z' hcd h1 h2 h3 h4 h5 h6 h7 => ?_, fun c hc => ?_, fun c m h1 => by rw [hsz]; exact hr.inh _ _ h1, fun c m z d h1 h2 h3 => ?_⟩
    · by_cases hc : c = b
      · subst hc
        rw [hb] at h1; cases h1
        rw [hget, if_pos rfl] at h2; cases h2
        exact hok
      · rw [hget, if_neg hc] at h2
        cases hz : z.live with
        | false => cases z <;> first | trivial | (cases hz)
        | true => exact (hr.blk _ _ _ h1 h2).keep (Ext.refl _) (hold _ (hne c m z hc h1 h2 hz))
    · by_cases hc : c = b
      · subst hc
        rw [hb] at h1; cases h1
        rw [hget, if_neg (fun e => hcd e.symm)] at h4
        exact absurd h7.symm (hne d k z' (fun e => hcd e.symm) h2 h4 h6)
      · rw [hget, if_neg hc] at h3
        by_cases hd : d = b
        · subst hd
          rw [hb] at h2; cases h2
          exact absurd h7 (hne c m z hc h1 h3 h5)
        · rw [hget, if_neg hd] at h4
          exact hr.sep c d m k z z' hcd h1 h2 h3 h4 h5 h6 h7
    · have hc' : h.n ≤ c := by simpa using hc
      obtain ⟨k1, k2⟩ := hr.fresh c hc'
      exact ⟨by rw [hget, if_neg (by omega)]; exact k1, k2⟩
    · by_cases hc : c = b
      · subst hc
        rw [hget, if_pos rfl] at h2; cases h2
        rw [yp, yn] at h3
        rcases h3 with h3 | h3 <;> cases h3
      · rw [hget, if_neg hc] at h2
        obtain ⟨q1, q2, q3⟩ := hr.links c m z d h1 h2 h3
        refine ⟨q1, by simpa using q2, ?_⟩
        rw [hget]
        split
        · rfl
        · exact q3
  refine ⟨Ext.refl _, hrel, by omega, fun c _ hn => hold c (fun e => hn ⟨b, l, _, hb, hx, xm, e.symm⟩), fun c _ hw => ?_, (fun c m h1 h2 => by rw [h1] at h2; cases h2), fun c h1 h2 => ?_, fun c h1 h2 => ?_, by simp, ht, ho, hu⟩
  · obtain ⟨d, m, z, h1, h2, h3, h4⟩ := hw
    by_cases hd : d = b
    · subst hd
      rw [hb] at h1; cases h1
      exact ⟨d, l, _, hb, hx, xm, h4⟩
    · rw [hget, if_neg hd] at h2
      exact ⟨d, m, z, h1, h2, h3, h4⟩
  · rw [hget, if_neg (fun e => by subst e; rw [hb] at h1; cases h1)]
  · rw [hget, if_neg (fun e => by subst e; rw [hx] at h2; cases h2)]; exact h2
/-! what is done to maps -/
theorem EntsOk.length : ∀ {es : List (AV × AV)} {l : List MapEntry}, EntsOk ρ es l → l.length = es.length
  | [], _, h => by have : _ = [] := h; rw [this]; rfl
  | _ :: _, _, ⟨m, l', h1, _, _, h4⟩ => by rw [h1, List.length_cons, List.length_cons, EntsOk.length h4]
theorem EntsOk.append : ∀ {es fs : List (AV × AV)} {l m : List MapEntry}, EntsOk ρ es l → EntsOk ρ fs m → EntsOk ρ (es ++ fs) (l ++ m)
  | [], _, _, _, h, k => by have : _ = [] := h; rw [this]; exact k
  | _ :: _, _, _, _, ⟨m, l', h1, h2, h3, h4⟩, k => ⟨m, l' ++ _, by rw [h1]; rfl, h2, h3, EntsOk.append h4 k⟩
theorem EntsOk.set : ∀ {es : List (AV × AV)} {l : List MapEntry} {i : Nat} {e : AV × AV} {m : MapEntry}, EntsOk ρ es l → V1 ρ e.1 m.key → V1 ρ e.2 m.val → EntsOk ρ (es.set i e) (l.set i m)
  | [], _, _, _, _, h, _, _ => by have : _ = [] := h; rw [this]; exact rfl
  | _ :: _, _, 0, _, m, ⟨m0, l', h1, h2, h3, h4⟩, k1, k2 => ⟨m, l', by rw [h1]; rfl, k1, k2, h4⟩
  | _ :: _, _, i + 1, _, m, ⟨m0, l', h1, h2, h3, h4⟩, k1, k2 => ⟨m0, l'.set i m, by rw [h1]; rfl, h2, h3, EntsOk.set h4 k1 k2⟩
theorem EntsOk.erase : ∀ {es : List (AV × AV)} {l : List MapEntry} {i : Nat}, EntsOk ρ es l → EntsOk ρ (es.eraseIdx i) (l.eraseIdx i)
  | [], _, _, h => by have : _ = [] := h; rw [this]; exact rfl
  | _ :: _, _, 0, ⟨m0, l', h1, h2, h3, h4⟩ => by rw [h1]; exact h4
  | _ :: _, _, i + 1, ⟨m0, l', h1, h2, h3, h4⟩ => ⟨m0, l'.eraseIdx i, by rw [h1]; rfl, h2, h3, EntsOk.erase h4⟩
theorem EntsOk.key_at : ∀ {es : List (AV × AV)} {l : List MapEntry} {i : Nat} {e : AV × AV}, EntsOk ρ es l → es[i]? = some e → ∃ m, l[i]? = some m ∧ V1 ρ e.1 m.key ∧ V1 ρ e.2 m.val
  | [], _, _, _, _, h => by simp at h
  | _ :: _, _, 0, _, ⟨m, l', h1, h2, h3, h4⟩, h => by simp at h; subst h; exact ⟨m, by rw [h1]; rfl, h2, h3⟩
  | _ :: _, _, i + 1, _, ⟨m, l', h1, h2, h3, h4⟩, h => by
    obtain ⟨m', q1, q2⟩ := EntsOk.key_at h4 (by simpa using h)
    exact ⟨m', by rw [h1]; simpa using q1, q2⟩
theorem findK_eq {k : AV} : ∀ {es : List (AV × AV)} {i j : Nat} {v : AV}, findK k es i = some (some (i + j, v)) → ∃ a, es[j]? = some (a, v) ∧ keyEq k a = some true := by
  intro es
  induction es with
  | nil => intro i j v h; simp [findK] at h
  | cons e r ih =>
    intro i j v h
    simp only [findK] at h
    split at h
    · rename_i hq
      simp only [Option.some.injEq, Prod.mk.injEq] at h
      have : j = 0 := by omega
      subst this
      exact ⟨e.1, by simp [← h.2], hq⟩
    · cases j with
      | zero =>
        exfalso
        clear ih
        have : ∀ (r : List (AV × AV)) (i : Nat) (n : Nat) (v : AV), findK k r i = some (some (n, v)) → i ≤ n := by
          intro r
          induction r with
          | nil => intro i n v h; simp [findK] at h
          | cons e r ih =>
            intro i n v h
            simp only [findK] at h
            split at h
            · simp only [Option.some.injEq, Prod.mk.injEq] at h; omega
            · have := ih _ _ _ h; omega
            · cases h
        have := this _ _ _ _ h
        omega
      | succ j =>
        have ej : i + (j + 1) = i + 1 + j := by omega
        rw [ej] at h
        obtain ⟨a, h1, h2⟩ := ih h
        exact ⟨a, by simpa using h1, h2⟩
    · cases h
/-- equal keys are the same value -/
theorem keyEq_same {k a : AV} {K A : Value} (h : keyEq k a = some true) (hk : V1 ρ k K) (ha : V1 ρ a A) : A = K := by
  cases k <;> cases a <;> simp only [keyEq] at h <;> try (cases h; done)
  · split at h
    · rename_i e
      subst e
      have h1 : K = .int _ _ := hk
      have h2 : A = .int _ _ := ha
      simp only [Option.some.injEq, beq_iff_eq] at h
      subst h
      rw [h1, h2]
    · cases h
  · have h1 : K = .string _ := hk
    have h2 : A = .string _ := ha
    simp only [Option.some.injEq, beq_iff_eq] at h
    subst h
    rw [h1, h2]
section
variable {h : H} {b : Nat} {l : Loc} {es : List (AV × AV)} {k v : AV} {K V : Value} {t kt et : TypeId} {d : TypeDesc}
theorem lookup_some (hr : R ρ h w) (hb : ρ b = some l) (hx : h.get b = some (.map es)) (ht : P.underlying t = some (.map kt et)) (hkt : P.underlying kt = some d) (hd : keyIs (tkOf d) k = true) (hk : V1 ρ k K)
    {i : Nat} (hf : findK k es 0 = some (some (i, v))) (ok : Bool) : ∃ V, V1 ρ v V ∧ (Instr.lookup t (.map (some l.blk)) K ok).run P w = .ok (if ok then .tuple #[V, .bool true] else V) w := by
  obtain ⟨arr, clock, hh, he⟩ := hr.blk b l _ hb hx
  rcases findK_sound hd hk he hf with ⟨q, _⟩ | ⟨j, v', V, q1, q2, q3, _⟩
  · cases q
  · cases q1
    refine ⟨V, q3, ?_⟩
    have hg : (getObj l.blk).run P w = .ok (.map arr clock) w := by simp [getObj, Sem.run, hh]
    cases ok <;> simp [Instr.lookup, run_underlying ht, hg, run_checkKey hkt (isKey_of hd hk), run_findKey hkt q2, Result.andThen]
theorem lookup_none (hr : R ρ h w) (hb : ρ b = some l) (hx : h.get b = some (.map es)) (ht : P.underlying t = some (.map kt et)) (hkt : P.underlying kt = some d) (hd : keyIs (tkOf d) k = true) (hk : V1 ρ k K)
    (hf : findK k es 0 = some none) {z : Value} (hz : (zeroValue et).run P w = .ok z w) (ok : Bool) : (Instr.lookup t (.map (some l.blk)) K ok).run P w = .ok (if ok then .tuple #[z, .bool false] else z) w := by
  obtain ⟨arr, clock, hh, he⟩ := hr.blk b l _ hb hx
  rcases findK_sound hd hk he hf with ⟨_, q⟩ | ⟨j, v', V, q1, _⟩
  · have hg : (getObj l.blk).run P w = .ok (.map arr clock) w := by simp [getObj, Sem.run, hh]
    cases ok <;> simp [Instr.lookup, run_underlying ht, hg, run_checkKey hkt (isKey_of hd hk), run_findKey hkt q, hz, Result.andThen]
  · cases q1
theorem EntsOk.modify : ∀ {es : List (AV × AV)} {l : List MapEntry} {i : Nat} {e : AV × AV} {f : MapEntry → MapEntry}, EntsOk ρ es l → (∀ m, V1 ρ e.1 (f m).key ∧ V1 ρ e.2 (f m).val) → EntsOk ρ (es.set i e) (l.modify i f)
  | [], _, i, _, _, h, _ => by have : _ = [] := h; rw [this, List.modify_nil]; exact rfl
  | _ :: _, _, 0, _, f, ⟨m0, l', h1, h2, h3, h4⟩, k => ⟨f m0, l', by rw [h1]; rfl, (k m0).1, (k m0).2, h4⟩
  | _ :: _, _, i + 1, _, f, ⟨m0, l', h1, h2, h3, h4⟩, k => ⟨m0, l'.modify i f, by rw [h1]; rfl, h2, h3, EntsOk.modify h4 k⟩
theorem same_bits {k : AV} {K : Value} {tk : TK} (hd : keyIs tk k = true) (hk : V1 ρ k K) : Instr.sameBits 10000 K K = true := by
  cases k with
  | int kk n => have h1 : K = .int kk n := hk; subst h1; simp [Instr.sameBits]
  | str x =>
    have h1 : K = .string ⟨x.toArray⟩ := hk; subst h1
    show ((ByteArray.mk x.toArray) == ⟨x.toArray⟩) = true
    show (x.toArray == x.toArray) = true
    simp
  | _ => cases tk <;> exact absurd hd (by simp [keyIs])
theorem upd_sound (hr : R ρ h w) (hb : ρ b = some l) (hx : h.get b = some (.map es)) (ht : P.underlying t = some (.map kt et)) (hkt : P.underlying kt = some d) (hd : keyIs (tkOf d) k = true) (hk : V1 ρ k K) (hv : V1 ρ v V)
    {es' : List (AV × AV)} (hu : updE es k v = some es') : ∃ w', (Instr.mapUpdate t (.map (some l.blk)) K V).run P w = .ok () w' ∧ Post ρ h w ρ (h.put b (.map es')) w' := by
  obtain ⟨arr, clock, hh, he⟩ := hr.blk b l _ hb hx
  have hg : (getObj l.blk).run P w = .ok (.map arr clock) w := by simp [getObj, Sem.run, hh]
  have hs : ∀ o, (setObj l.blk o).run P w = .ok () { w with heap := w.heap.setIfInBounds l.blk o } := fun o => by simp [setObj, Sem.run, hh]
  have post : ∀ (arr' : Array MapEntry) (clock' : Nat), EntsOk ρ es' arr'.toList → Post ρ h w ρ (h.put b (.map es')) { w with heap := w.heap.setIfInBounds l.blk (.map arr' clock') } := fun arr' clock' q => by
    obtain ⟨h1, h2⟩ := heap_set (o' := .map arr' clock') hh
    exact Post.over hr hb hx rfl rfl rfl rfl rfl rfl rfl rfl h2 (by simp) ⟨arr', clock', h1, q⟩ rfl rfl rfl
  unfold updE at hu
  split at hu
  · rename_i hf
    cases hu
    rcases findK_sound hd hk he hf with ⟨_, q⟩ | ⟨j, v', V', q1, _⟩
    · refine ⟨_, ?_, post (arr.push { key := K, val := V, born := clock }) (clock + 1) ?_⟩
      · simp [Instr.mapUpdate, run_underlying ht, hg, run_checkKey hkt (isKey_of hd hk), run_findKey hkt q, hs, Result.andThen]
      · rw [Array.toList_push]
        exact he.append ⟨_, [], rfl, hk, hv, rfl⟩
    · cases q1
  · rename_i i x hf
    cases hu
    rcases findK_sound hd hk he hf with ⟨q, _⟩ | ⟨j, v', V', q1, q2, _, _, q5⟩
    · cases q
    · cases q1
      obtain ⟨a, f1, f2⟩ := findK_eq hf
      obtain ⟨m, g1, g2, g3⟩ := he.key_at f1
      have hmk : m.key = K := keyEq_same f2 hk g2
      have hai : arr[j]? = some m := by rw [← Array.getElem?_toList]; exact g1
      refine ⟨_, ?_, post (arr.modify (0 + j) fun e => { e with key := K, val := V }) clock ?_⟩
      · have hks : ∀ w, (Instr.keyThatStays K K).run P w = .ok K w := fun w => by simp [Instr.keyThatStays, same_bits hd hk]
        simp [Instr.mapUpdate, run_underlying ht, hg, run_checkKey hkt (isKey_of hd hk), run_findKey hkt q2, hs, Result.andThen, hai, hmk, hks]
      · rw [Array.toList_modify]
        exact he.modify fun m => ⟨hk, hv⟩
  · cases hu
theorem del_sound (hr : R ρ h w) (hb : ρ b = some l) (hx : h.get b = some (.map es)) (ht : P.underlying t = some (.map kt et)) (hkt : P.underlying kt = some d) (hd : keyIs (tkOf d) k = true) (hk : V1 ρ k K)
    {es' : List (AV × AV)} (hu : delE es k = some es') {ts : Array TypeId} (hts : ts[0]? = some t) (ty : TypeId) : ∃ w', (Builtin.delete_ ts ty #[.map (some l.blk), K]).run P w = .ok (.tuple #[]) w' ∧ Post ρ h w ρ (h.put b (.map es')) w' := by
  obtain ⟨arr, clock, hh, he⟩ := hr.blk b l _ hb hx
  have hg : (getObj l.blk).run P w = .ok (.map arr clock) w := by simp [getObj, Sem.run, hh]
  have hs : ∀ o, (setObj l.blk o).run P w = .ok () { w with heap := w.heap.setIfInBounds l.blk o } := fun o => by simp [setObj, Sem.run, hh]
  have post : ∀ (arr' : Array MapEntry) (clock' : Nat), EntsOk ρ es' arr'.toList → Post ρ h w ρ (h.put b (.map es')) { w with heap := w.heap.setIfInBounds l.blk (.map arr' clock') } := fun arr' clock' q => by
    obtain ⟨h1, h2⟩ := heap_set (o' := .map arr' clock') hh
    exact Post.over hr hb hx rfl rfl rfl rfl rfl rfl rfl rfl h2 (by simp) ⟨arr', clock', h1, q⟩ rfl rfl rfl
  unfold delE at hu
  split at hu
  · rename_i hf
    cases hu
    rcases findK_sound hd hk he hf with ⟨_, q⟩ | ⟨j, v', V', q1, _⟩
    · refine ⟨_, ?_, post arr clock he⟩
      simp [Builtin.delete_, hts, run_underlying ht, hg, run_checkKey hkt (isKey_of hd hk), run_findKey hkt q, hs, Result.andThen]
    · cases q1
  · rename_i i x hf
    cases hu
    rcases findK_sound hd hk he hf with ⟨q, _⟩ | ⟨j, v', V', q1, q2, _, _, q5⟩
    · cases q
    · cases q1
      refine ⟨_, ?_, post (arr.eraseIdxIfInBounds (0 + j)) clock ?_⟩
      · simp [Builtin.delete_, hts, run_underlying ht, hg, run_checkKey hkt (isKey_of hd hk), run_findKey hkt q2, hs, Result.andThen]
      · rw [Array.toList_eraseIdxIfInBounds]
        exact he.erase
  · cases hu
theorem map_len (hr : R ρ h w) (hb : ρ b = some l) (hx : h.get b = some (.map es)) (ht : P.underlying t = some (.map kt et)) {ts : Array TypeId} (hts : ts[0]? = some t) (ty : TypeId) : (Builtin.len_ ts ty #[.map (some l.blk)]).run P w = .ok (.int .i64 es.length) w := by
  obtain ⟨arr, clock, hh, he⟩ := hr.blk b l _ hb hx
  have hg : (getObj l.blk).run P w = .ok (.map arr clock) w := by simp [getObj, Sem.run, hh]
  have := he.length
  simp at this
  simp [Builtin.len_, hts, run_underlying ht, hg, Result.andThen, goInt, this]
theorem map_new (hr : R ρ h w) (t : TypeId) : (Instr.makeMap t none).run P w = .ok (.map (some w.heap.size)) (w.alloc (.map #[] 0)) ∧ Post ρ h w (ρ.add h.n ⟨w.heap.size, 0, 0, 0⟩) (h.new (.map [])) (w.alloc (.map #[] 0)) := by
  obtain ⟨h1, h2⟩ := heap_alloc w (.map #[] 0)
  have hsz : (w.alloc (.map #[] 0)).heap.size = w.heap.size + 1 := by show (w.heap.push _).size = _; simp
  refine ⟨?_, ?_⟩
  · simp [Instr.makeMap, newObj, Sem.run]
  · exact Post.birth hr h2 (by omega) (Nat.le_refl _) (by show w.heap.size < _; omega) ⟨#[], 0, h1, rfl⟩ rfl rfl rfl rfl rfl
end
end
end Go.Abs

/-
  The pure operations.
-/
namespace Go.Abs
open Go

section
variable {P : Program} {E : Env} {ρ : Pl} {fr : T AV} {ev : Operand → Value}

/-- what is told of an operand is so -/
def Knows (ρ : Pl) (fr : T AV) (ev : Operand → Value) (xs : Array Operand) : Prop := ∀ x ∈ xs, ∀ v, opnd fr x = some v → VR ρ v (ev x)

theorem eqGuard_plain (op : BinOp) (t : TypeId) (x y : Operand) (a b : Value) (w : World) (h1 : ¬ (a = .nilIface ∧ b = .nilIface)) (h2 : ¬ (∃ m n, a = .agg m ∧ b = .agg n)) :
    (eqGuard op t x y a b).run P w = .ok () w := by
  unfold eqGuard
  split
  all_goals first
    | (simp; done)
    | (simp only [Bool.not_true, Bool.false_eq_true, if_false]
       split
       · exact absurd ⟨rfl, rfl⟩ h1
       · exact absurd ⟨_, _, rfl, rfl⟩ h2
       · rfl)

theorem binInt_sound {op : BinOp} {k : IntKind} {a b : Int} {v : AV} (h : binInt op k a b = some v) (t : TypeId) :
    ∃ u, VS ρ v u ∧ ∀ w, (binOp op t (.int k a) (.int k b)).run P w = .ok u w := by
  cases op <;> simp only [binInt] at h <;> first
    | (exfalso; simp at h; done)
    | (simp only [Option.some.injEq] at h; subst h; exact ⟨_, rfl, fun w => by simp [binOp, Op.intArith, Op.intCmp, Op.intBits]⟩)
    | (split at h
       · cases h
       · rename_i hb
         simp only [Option.some.injEq] at h; subst h; exact ⟨_, rfl, fun w => by simp [binOp, Op.intDiv, hb]⟩)

theorem binStr_sound {op : BinOp} {a b : List UInt8} {v : AV} (h : binStr op a b = some v) (t : TypeId) :
    ∃ u, VS ρ v u ∧ ∀ w, (binOp op t (.string ⟨a.toArray⟩) (.string ⟨b.toArray⟩)).run P w = .ok u w := by
  cases op <;> simp only [binStr] at h <;> first
    | (exfalso; simp at h; done)
    | (simp only [Option.some.injEq] at h; subst h; exact ⟨_, rfl, fun w => by simp [binOp, Op.stringOp]⟩)
    | skip
  split at h
  · rename_i hl
    simp only [Option.some.injEq] at h; subst h
    refine ⟨_, rfl, fun w => ?_⟩
    have hsz : ∀ l : List UInt8, (⟨l.toArray⟩ : ByteArray).size = l.length := fun l => by simp [ByteArray.size]
    have : ¬ (((⟨a.toArray⟩ : ByteArray).size + (⟨b.toArray⟩ : ByteArray).size : Nat) : Int) > IntKind.i64.max := by
      rw [hsz, hsz]; simp only [IntKind.max, IntKind.signed, IntKind.bits, if_true]; omega
    simp only [binOp, Op.stringOp, this, if_false, Sem.run_pure]
    congr 2
  · cases h

theorem eqCells_len : ∀ {ks : List FK} {x y : List AV} {b : Bool}, eqCells ks x y = some b → x.length = ks.length ∧ y.length = ks.length
  | [], [], [], _, _ => ⟨rfl, rfl⟩
  | [], [], _ :: _, _, h => by simp [eqCells] at h
  | [], _ :: _, _, _, h => by simp [eqCells] at h
  | _ :: _, [], _, _, h => by simp [eqCells] at h
  | _ :: _, _ :: _, [], _, h => by simp [eqCells] at h
  | k :: ks, a :: x, c :: y, b, h => by
    simp only [eqCells] at h
    split at h
    · have := eqCells_len h; simp [this]
    · split at h
      · rename_i hh; have := eqCells_len hh; simp [this]
      · cases h
    · cases h
theorem eqCells_append : ∀ {ks ks' : List FK} {x y : List AV} {b : Bool}, eqCells (ks ++ ks') x y = some b →
    ∃ c d, eqCells ks (x.take ks.length) (y.take ks.length) = some c ∧ eqCells ks' (x.drop ks.length) (y.drop ks.length) = some d ∧ b = (c && d)
  | [], ks', x, y, b, h => ⟨true, b, by simp [eqCells], by simpa using h, by simp⟩
  | k :: ks, ks', [], _, b, h => by simp [eqCells] at h
  | k :: ks, ks', _ :: _, [], b, h => by simp [eqCells] at h
  | k :: ks, ks', a :: x, c :: y, b, h => by
    simp only [List.cons_append, eqCells] at h
    simp only [List.length_cons, List.take_succ_cons, List.drop_succ_cons, eqCells]
    split at h
    · rename_i he
      obtain ⟨c', d, h1, h2, h3⟩ := eqCells_append h
      exact ⟨c', d, by simp [h1], h2, h3⟩
    · split at h
      · rename_i z hz
        simp only [Option.some.injEq] at h; subst h
        obtain ⟨c', d, h1, h2, h3⟩ := eqCells_append hz
        exact ⟨false, d, by simp [h1], h2, by simp⟩
      · cases h
    · cases h

theorem run_part (w : World) {t : TypeId} {d : TypeDesc} (hd : P.underlying t = some d) (ha : aggOf d = false) (cs : Array Value) (o : Nat) (v : Value) (h : cs[o]? = some v) :
    (part t cs o).run P w = .ok v w := by
  have : (isAgg t).run P w = .ok false w := by cases d <;> simp_all [isAgg, underlying, aggOf]
  simp [part, this, h]
theorem run_part_agg (w : World) {t : TypeId} {d : TypeDesc} (hd : P.underlying t = some d) (ha : aggOf d = true) (cs : Array Value) (o : Nat) (i : TypeInfo) (hi : P.info? t = some i) :
    (part t cs o).run P w = .ok (.agg (cs.extract o (o + i.size))) w := by
  have : (isAgg t).run P w = .ok true w := by cases d <;> simp_all [isAgg, underlying, aggOf]
  simp [part, this, sizeOf, typeInfo, hi]

theorem fieldsOf_eq {t : TypeId} {fs : Array Field} (h : P.underlying t = some (.struct fs)) : P.fieldsOf t = fs := by
  simp [Program.fieldsOf, h]

theorem flat_size {d : Nat} {t : TypeId} {ks : List FK} (h : flatOf P d t = some ks) : P.cellsOf t = ks.length := by
  cases d with
  | zero => cases h
  | succ d =>
    simp only [flatOf] at h
    split at h
    · split at h
      · rename_i hb; cases h; simpa using hb
      · cases h
    · split at h
      · rename_i hb; cases h; simpa using hb
      · cases h
    · split at h
      · rename_i hb; cases h; simpa using hb
      · cases h
    · split at h
      · cases h
      · split at h
        · split at h
          · rename_i hb; cases h; simpa using hb
          · cases h
        · cases h
    · split at h
      · split at h
        · rename_i hb; cases h; simpa using hb
        · cases h
      · cases h
    · cases h
theorem flat_info {d : Nat} {t : TypeId} {ks : List FK} (h : flatOf P d t = some ks) : ∃ i, P.info? t = some i := by
  cases hi : P.info? t with
  | some i => exact ⟨i, rfl⟩
  | none =>
    cases d with
    | zero => cases h
    | succ d =>
      have : P.underlying t = none := by unfold Program.underlying; rw [hi]
      simp only [flatOf, this] at h
      cases h
/-- cells of flat types, held against each other by the model -/
theorem flat_sound (w : World) : ∀ (d : Nat) (t : TypeId) (ks : List FK), flatOf P d t = some ks → ∀ (e : Nat), d ≤ e → ∀ (XS YS : Array Value) (o : Nat) (x y : List AV) (b : Bool),
    VL ρ x ((XS.toList.drop o).take ks.length) → VL ρ y ((YS.toList.drop o).take ks.length) → eqCells ks x y = some b →
    ∃ u v, (part t XS o).run P w = .ok u w ∧ (part t YS o).run P w = .ok v w ∧ (Op.equalIn e t u v).run P w = .ok b w := by
  intro d
  induction d with
  | zero => intro t ks h; cases h
  | succ d ih =>
    intro t ks h e he XS YS o x y b hx hy hb
    obtain ⟨e, rfl⟩ : ∃ e', e = e' + 1 := ⟨e - 1, by omega⟩
    obtain ⟨lx, ly⟩ := eqCells_len hb
    have hX := hx.length
    have hY := hy.length
    simp only [flatOf] at h
    have leaf : ∀ (k : FK) (dd : TypeDesc), ks = [k] → P.underlying t = some dd → aggOf dd = false →
        (∀ (p q : AV) (u v : Value) (c : Bool), eqCell k p q = some c → VS ρ p u → VS ρ q v → (Op.equalIn (e + 1) t u v).run P w = .ok c w) →
        ∃ u v, (part t XS o).run P w = .ok u w ∧ (part t YS o).run P w = .ok v w ∧ (Op.equalIn (e + 1) t u v).run P w = .ok b w := by
      intro k dd hk hd ha hq
      subst hk
      match x, y, lx, ly with
      | [p], [q], _, _ =>
        simp only [eqCells] at hb
        obtain ⟨u, l1, h1, h2, h3⟩ := hx
        obtain ⟨v, l2, h4, h5, h6⟩ := hy
        have hu : XS[o]? = some u := by
          have := congrArg (·[0]?) h3
          simpa using this
        have hv : YS[o]? = some v := by
          have := congrArg (·[0]?) h6
          simpa using this
        refine ⟨u, v, run_part w hd ha _ _ _ hu, run_part w hd ha _ _ _ hv, ?_⟩
        have hc : eqCell k p q = some b := by
          cases hcc : eqCell k p q with
          | none => simp [hcc] at hb
          | some c => cases c <;> simp [hcc] at hb <;> rw [← hb]
        exact hq p q u v b hc h1 h4
    split at h
    · rename_i hd
      split at h
      · cases h
        refine leaf .b .bool rfl hd rfl fun p q u v c hc h1 h2 => ?_
        cases p <;> cases q <;> simp only [eqCell] at hc <;> first
          | (simp only [Option.some.injEq] at hc; subst hc; simp only [VS] at h1 h2; subst h1 h2; exact run_equalIn_bool' w e t _ _ hd)
          | cases hc
      · cases h
    · rename_i kk hd
      split at h
      · cases h
        refine leaf .i (.int kk) rfl hd rfl fun p q u v c hc h1 h2 => ?_
        cases p <;> cases q <;> simp only [eqCell] at hc <;> first
          | (split at hc
             · rename_i e1; subst e1
               simp only [Option.some.injEq] at hc; subst hc; simp only [VS] at h1 h2; subst h1 h2; exact run_equalIn_int w e t _ _ _ _ hd
             · cases hc)
          | cases hc
      · cases h
    · rename_i hd
      split at h
      · cases h
        refine leaf .s .string rfl hd rfl fun p q u v c hc h1 h2 => ?_
        cases p <;> cases q <;> simp only [eqCell] at hc <;> first
          | (simp only [Option.some.injEq] at hc; subst hc; simp only [VS] at h1 h2; subst h1 h2; rw [run_equalIn_string w e t _ _ hd]; simp)
          | cases hc
      · cases h
    · rename_i fs hd
      split at h
      · cases h
      · rename_i hst
        split at h
        · rename_i ks' hks
          split at h
          · rename_i hsz
            cases h
            have hsz' : P.cellsOf t = ks.length := by simpa using hsz
            obtain ⟨i, hi, his⟩ : ∃ i, P.info? t = some i ∧ i.size = ks.length := by
              unfold Program.cellsOf at hsz'
              cases hi : P.info? t with
              | none => unfold Program.underlying at hd; rw [hi] at hd; cases hd
              | some i => exact ⟨i, rfl, by rw [hi] at hsz'; simpa using hsz'⟩
            refine ⟨_, _, run_part_agg w hd rfl _ _ i hi, run_part_agg w hd rfl _ _ i hi, ?_⟩
            rw [run_equalIn_struct w e t _ _ (by rw [fieldsOf_eq hd]; exact hd) hst, fieldsOf_eq hd, his]
            have hXs : (XS.extract o (o + ks.length)).toList = (XS.toList.drop o).take ks.length := by simp [List.take_drop]
            have hYs : (YS.extract o (o + ks.length)).toList = (YS.toList.drop o).take ks.length := by simp [List.take_drop]
            generalize hXX : XS.extract o (o + ks.length) = XX at *
            generalize hYY : YS.extract o (o + ks.length) = YY at *
            rw [← hXs] at hx; rw [← hYs] at hy
            clear hX hY hXs hYs hXX hYY leaf
            have key : ∀ (fl : List Field) (q : Nat) (ks : List FK) (x y : List AV) (b : Bool), flatOf.flds (flatOf P d) fl q = some ks → VL ρ x (XX.toList.drop q) → VL ρ y (YY.toList.drop q) →
                eqCells ks x y = some b → (Op.eqFields e XX YY fl).run P w = .ok b w := by
              intro fl
              induction fl with
              | nil =>
                intro q ks x y b h1 h2 h3 h4
                simp only [flatOf.flds, Option.some.injEq] at h1
                subst h1
                cases x <;> cases y <;> simp only [eqCells] at h4 <;> cases h4
                rfl
              | cons f fl ihf =>
                intro q ks x y b h1 h2 h3 h4
                simp only [flatOf.flds] at h1
                split at h1
                · rename_i k hn ho hf
                  split at h1
                  · rename_i l hl
                    simp only [Option.some.injEq] at h1
                    subst h1
                    obtain ⟨c, dd, e1, e2, e3⟩ := eqCells_append h4
                    have ho' : f.offset = q := by simpa using ho
                    obtain ⟨u, v, p1, p2, p3⟩ := ih f.type k hf e (by omega) XX YY f.offset _ _ c (by rw [ho']; exact h2.take _) (by rw [ho']; exact h3.take _) e1
                    have hn' : f.name ≠ "_" := by simpa using hn
                    simp only [Op.eqFields, hn', ne_eq, not_false_eq_true, if_true, Sem.run_bind, p1, p2, p3, Result.andThen_ok]
                    cases c with
                    | false => subst e3; simp
                    | true =>
                      subst e3
                      simp only [Bool.not_true, Bool.false_eq_true, if_false]
                      exact ihf (q + k.length) l _ _ _ hl (by rw [← List.drop_drop]; exact h2.drop _) (by rw [← List.drop_drop]; exact h3.drop _) e2
                  · cases h1
                · cases h1
            exact key fs.toList 0 ks x y b hks (by simpa using hx) (by simpa using hy) hb
          · cases h
        · cases h
    · rename_i n el hd
      split at h
      · rename_i kk hkk
        split at h
        · rename_i hce hct
          cases h
          have hce' : P.cellsOf el = kk.length := by simpa using hce
          have hct' : P.cellsOf t = (repK kk n).length := by simpa using hct
          obtain ⟨i, hi, his⟩ : ∃ i, P.info? t = some i ∧ i.size = (repK kk n).length := by
            unfold Program.cellsOf at hct'
            cases hi : P.info? t with
            | none => unfold Program.underlying at hd; rw [hi] at hd; cases hd
            | some i => exact ⟨i, rfl, by rw [hi] at hct'; simpa using hct'⟩
          obtain ⟨ie, hie⟩ := flat_info hkk
          refine ⟨_, _, run_part_agg w hd rfl _ _ i hi, run_part_agg w hd rfl _ _ i hi, ?_⟩
          rw [run_equalIn_array w e _ _ hd hie, his, hce', List.range_eq_range']
          have hXs : (XS.extract o (o + (repK kk n).length)).toList = (XS.toList.drop o).take (repK kk n).length := by simp [List.take_drop]
          have hYs : (YS.extract o (o + (repK kk n).length)).toList = (YS.toList.drop o).take (repK kk n).length := by simp [List.take_drop]
          generalize hXX : XS.extract o (o + (repK kk n).length) = XX at *
          generalize hYY : YS.extract o (o + (repK kk n).length) = YY at *
          rw [← hXs] at hx; rw [← hYs] at hy
          clear hX hY hXs hYs hXX hYY leaf lx ly hct hct' his hi
          have key : ∀ (m j : Nat) (x y : List AV) (b : Bool), VL ρ x (XX.toList.drop (j * kk.length)) → VL ρ y (YY.toList.drop (j * kk.length)) →
              eqCells (repK kk m) x y = some b → (Op.eqItems e el kk.length XX YY (List.range' j m)).run P w = .ok b w := by
            intro m
            induction m with
            | zero =>
              intro j x y b h2 h3 h4
              simp only [repK] at h4
              cases x <;> cases y <;> simp only [eqCells] at h4 <;> cases h4
              simp [Op.eqItems]
            | succ m ihm =>
              intro j x y b h2 h3 h4
              simp only [repK] at h4
              obtain ⟨c, dd, e1, e2, e3⟩ := eqCells_append h4
              obtain ⟨u, v, p1, p2, p3⟩ := ih el kk hkk e (by omega) XX YY (j * kk.length) _ _ c (h2.take _) (h3.take _) e1
              rw [List.range'_succ]
              simp only [Op.eqItems, Sem.run_bind, p1, p2, p3, Result.andThen_ok]
              cases c with
              | false => subst e3; simp
              | true =>
                subst e3
                simp only [Bool.not_true, Bool.false_eq_true, if_false]
                have hj : (j + 1) * kk.length = j * kk.length + kk.length := by rw [Nat.add_mul, Nat.one_mul]
                exact ihm (j + 1) _ _ _ (by rw [hj, ← List.drop_drop]; exact h2.drop _) (by rw [hj, ← List.drop_drop]; exact h3.drop _) e2
          exact key n 0 x y b (by simpa using hx) (by simpa using hy) hb
        · cases h
      · cases h
    · cases h

end
end Go.Abs
