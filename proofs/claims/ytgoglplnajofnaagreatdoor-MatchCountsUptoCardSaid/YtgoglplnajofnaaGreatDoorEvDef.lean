/- A part of the evaluator of Go code over small heaps and of its proof: no condition beyond those that each theorem names. -/
import Derived.Calls
import Derived.Orders
import Derived.LoopN
namespace Go.Ev

/-- What is read and never written: a number, a text, a slice as the list of its elements. -/
inductive D (T : TypeId → Type) where
  | b (p : Bool)
  | i (k : IntKind) (n : Int)
  | s (l : List UInt8)
  | l (t : TypeId) (xs : List (T t))
  | ns
  | ni
  | io
  | ie (p : Bool)

/-- What a temporary or a cell may hold. -/
inductive V (T : TypeId → Type) where
  | u
  | d (x : D T)
  | agg (cs : List (V T))
  | tup (vs : List (V T))
  | ptr (id off : Nat)
  | aptr (id base : Nat) (t : TypeId) (n : Nat) (ix off : Nat)
  | eptr (id ix off : Nat)
  | dptr (t : TypeId) (xs : List (T t)) (ix off : Nat)
  | sl (id : Nat) (rng : Option (Nat × Nat))
  | mp (id : Nat)
  | bp (id : Nat)
  | gp (g off : Nat)
  | fn (f : FuncId) (caps : List (V T))
  | np
  | pv (t : TypeId) (ds : List (D T))
  | gd (j : Nat) (w : Bool) (v : V T)

/-- Keys of maps: texts, or numbers of a kind. -/
abbrev KTy : Option IntKind → Type
  | none => List UInt8
  | some _ => Int

def kbeq : (kk : Option IntKind) → KTy kk → KTy kk → Bool
  | none, a, b => a == b
  | some _, a, b => a == b

def mget {α : Type} (kk : Option IntKind) (k : KTy kk) : List (KTy kk × α) → Option α
  | [] => none
  | e :: es => bif kbeq kk e.1 k then some e.2 else mget kk k es

def mput {α : Type} (kk : Option IntKind) (k : KTy kk) (x : α) : List (KTy kk × α) → List (KTy kk × α)
  | [] => [(k, x)]
  | e :: es => bif kbeq kk e.1 k then (k, x) :: es else e :: mput kk k x es

/-- What lies in the small heap. -/
inductive Obj (T : TypeId → Type) where
  | dead
  | unk
  | box (cs : List (V T))
  | arr (t : TypeId) (xs : List (T t))
  | mp (kk : Option IntKind) (vt : TypeId) (es : List (KTy kk × T vt))
  | bl (s : List UInt8)

structure Cod (T : TypeId → Type) where
  kn : TypeId → Bool
  enc : (t : TypeId) → T t → List (D T)
  dec : (t : TypeId) → List (D T) → Option (T t)
  dflt : (t : TypeId) → T t
  /-- bytes as a list of a type, and back -/
  ofB : (t : TypeId) → List UInt8 → List (T t)
  toB : (t : TypeId) → List (T t) → List UInt8

/-- What a call comes to: a value of a type of its own, and how it reads as results and as the small heap behind it. -/
structure CallE (T : TypeId → Type) where
  τ : Type
  val : Option τ
  dflt : τ
  enc : τ → List (V T) × List (Obj T)
  /-- does it panic, and with what? -/
  pan : τ → Bool := fun _ => false
  penc : τ → V T := fun _ => .u
  penh : List (Obj T) := []

structure Cfg (T : TypeId → Type) where
  P : Program
  cod : Cod T
  cf : FuncId → List (V T) → List (Obj T) → Option (CallE T)
  /-- types whose values may be held against each other: of these the closed facts are known -/
  eqk : TypeId → Bool
  /-- the world at the beginning, and what its variables hold: these are never written -/
  w0 : World
  gv : Nat → Option (List (D T))
  /-- the type of a builder of texts, and of bytes -/
  bt : TypeId
  ut : TypeId
  /-- functions that write into the lists that they are handed -/
  hd : FuncId → Bool
  /-- structs whose lists are given up where they are boxed -/
  fb : TypeId → Bool

structure St (T : TypeId → Type) where
  env : Nat → V T
  heap : List (Obj T)

variable {T : TypeId → Type}


/-- What a function comes to where it returns, and where it panics. -/
structure Kr (T : TypeId → Type) (ρ : Type) where
  ret : St T → Option ρ
  pan : V T → St T → Option ρ

def St.set (s : St T) (dst : Option Tmp) (v : V T) : St T :=
  match dst with
  | some d => ⟨fun i => bif i.beq d then v else s.env i, s.heap⟩
  | none => s

def cD : Value → Option (D T)
  | .bool p => some (.b p)
  | .int k n => some (.i k n)
  | .string s => some (.s s.data.toList)
  | .slice none 0 0 => some .ns
  | .nilIface => some .ni
  | _ => none

def cV1 (v : Value) : V T :=
  match cD v with
  | some x => .d x
  | none => match v with
    | .pointer none => .np
    | _ => .u

def cV (v : Value) : V T :=
  match v with
  | .agg cs => .agg (cs.toList.map cV1)
  | v => cV1 v

def ev (s : St T) : Operand → V T
  | .tmp t => s.env t
  | .const v => cV v
  | .global g => .gp g 0
  | .func f => .fn f []

/-- An operand under a chain of guards: what stands under one of them is there. -/
def rd (s : St T) (G : List (Nat × Bool)) (x : Operand) : V T :=
  match ev s x with
  | .gd j w v => bif G.any (fun p => p.1.beq j && (p.2 == w)) then v else .u
  | v => v

def V.cells : V T → List (V T)
  | .agg cs => cs
  | v => [v]

def toD : V T → Option (D T)
  | .d x => some x
  | _ => none

def toDs : List (V T) → Option (List (D T))
  | [] => some []
  | v :: vs => match toD v, toDs vs with
    | some x, some xs => some (x :: xs)
    | _, _ => none

def asT (t : TypeId) : (t' : TypeId) → List (T t') → Option (List (T t)) :=
  fun t' xs => if h : t' = t then some (h ▸ xs) else none

def asM (kk : Option IntKind) (t : TypeId) : (kk' : Option IntKind) → (t' : TypeId) → List (KTy kk' × T t') → Option (List (KTy kk × T t)) :=
  fun kk' t' es => if h : kk' = kk ∧ t' = t then some (h.1 ▸ h.2 ▸ es) else none

def keyOf : (kk : Option IntKind) → D T → Option (KTy kk)
  | none, .s l => some l
  | some k, .i k' n => if k' = k then some n else none
  | _, _ => none

/-- Which kind of keys a type's values are. -/
def kindOf (P : Program) (t : TypeId) : Option (Option IntKind) := match P.underlying t with
  | some .string => some none
  | some (.int k) => some (some k)
  | _ => none

def mapT (P : Program) (t : TypeId) : Option (TypeId × TypeId) := match P.underlying t with
  | some (.map k v) => some (k, v)
  | _ => none

/-- Data of a type, as a value. -/
def valOf (ag : Bool) (ds : List (D T)) : V T := match ag, ds with
  | true, ds => .agg (ds.map .d)
  | false, [d] => .d d
  | _, _ => .u

/-- Is it a value of many cells? -/
def aggB : V T → Option Bool
  | .agg _ => some true
  | .d _ => some false
  | _ => none

/-- A slice's elements, as they can be read. -/
def asL (H : List (Obj T)) (t : TypeId) : V T → Option (List (T t))
  | .d (.l t' xs) => asT t t' xs
  | .d .ns => some []
  | .sl id rng => match H[id]? with
    | some (.arr t' xs) => match asT t t' xs, rng with
      | some ys, none => some ys
      | some ys, some (o, n) => some ((ys.drop o).take n)
      | none, _ => none
    | _ => none
  | _ => none

/-- The type of a slice's elements. -/
def elemT (P : Program) (t : TypeId) : Option TypeId :=
  match P.underlying t with
  | some (.slice e) => some e
  | _ => none

def sizeT (P : Program) (t : TypeId) : Option Nat := (P.info? t).map (·.size)

def isAggT (P : Program) (t : TypeId) : Option Bool :=
  match P.underlying t with
  | some (.struct _) | some (.array _ _) => some true
  | some _ => some false
  | none => none

/-- A value of type t out of cells, from a place on. -/
def takeV (P : Program) (t : TypeId) (cs : List (V T)) (off : Nat) : Option (V T) :=
  match isAggT P t, sizeT P t with
  | some true, some n => bif (off + n).ble cs.length then some (.agg ((cs.drop off).take n)) else none
  | some false, _ => cs[off]?
  | _, _ => none

/-- Cells with others put over them. -/
def putV : List (V T) → Nat → List (V T) → List (V T)
  | cs, _, [] => cs
  | cs, off, v :: vs => putV (cs.set off v) (off + 1) vs

def bin (op : BinOp) : V T → V T → Option (Bool × V T)
  | .d (.i k a), .d (.i k' b) =>
    match op with
    | .shl => some (decide (0 ≤ b), .d (.i k (k.wrap (a * 2 ^ (min b.toNat k.bits)))))
    | .shr => some (decide (0 ≤ b), .d (.i k (a.fdiv (2 ^ (min b.toNat k.bits)))))
    | _ =>
    if k = k' then
      match op with
      | .add => some (true, .d (.i k (k.wrap (a + b))))
      | .sub => some (true, .d (.i k (k.wrap (a - b))))
      | .mul => some (true, .d (.i k (k.wrap (a * b))))
      | .quo => some (b != 0, .d (.i k (k.wrap (a.tdiv b))))
      | .rem => some (b != 0, .d (.i k (a.tmod b)))
      | .and => some (true, .d (.i k (k.wrap (BitVec.ofInt k.bits a &&& BitVec.ofInt k.bits b).toNat)))
      | .or => some (true, .d (.i k (k.wrap (BitVec.ofInt k.bits a ||| BitVec.ofInt k.bits b).toNat)))
      | .xor => some (true, .d (.i k (k.wrap (BitVec.ofInt k.bits a ^^^ BitVec.ofInt k.bits b).toNat)))
      | .andNot => some (true, .d (.i k (k.wrap (BitVec.ofInt k.bits a &&& ~~~BitVec.ofInt k.bits b).toNat)))
      | .eql => some (true, .d (.b (a == b)))
      | .neq => some (true, .d (.b (a != b)))
      | .lss => some (true, .d (.b (decide (a < b))))
      | .leq => some (true, .d (.b (decide (a ≤ b))))
      | .gtr => some (true, .d (.b (decide (a > b))))
      | .geq => some (true, .d (.b (decide (a ≥ b))))
      | _ => none
    else none
  | .d (.s a), .d (.s b) =>
    match op with
    | .add => some (Nat.ble (a.length + b.length) 9223372036854775807, .d (.s (a ++ b)))
    | .eql => some (true, .d (.b (a == b)))
    | .neq => some (true, .d (.b (!(a == b))))
    | .lss => some (true, .d (.b (Op.bytesLess a b)))
    | .leq => some (true, .d (.b (Op.bytesLess a b || a == b)))
    | .gtr => some (true, .d (.b (!(Op.bytesLess a b || a == b))))
    | .geq => some (true, .d (.b (!(Op.bytesLess a b))))
    | _ => none
  | _, _ => none

/-- Is there no slice, pointer or the like in a type? -/
def flatT (P : Program) : Nat → TypeId → Bool
  | 0, _ => false
  | n + 1, t =>
    match P.underlying t with
    | some .bool | some (.int _) | some .string => true
    | some (.array _ e) => flatT P n e
    | some (.struct fs) => fs.toList.all fun f => flatT P n f.type
    | _ => false

def eqFs (P : Program) (rec : TypeId → V T → V T → Option Bool) (xs ys : List (V T)) : List Field → Option Bool
  | [] => some true
  | f :: fs =>
    if f.name = "_" then eqFs P rec xs ys fs else
    match takeV P f.type xs f.offset, takeV P f.type ys f.offset with
    | some a, some b => match rec f.type a b, eqFs P rec xs ys fs with
      | some p, some q => some (p && q)
      | _, _ => none
    | _, _ => none

def eqAs (P : Program) (rec : V T → V T → Option Bool) (e : TypeId) (sz : Nat) (xs ys : List (V T)) : List Nat → Option Bool
  | [] => some true
  | i :: is =>
    match takeV P e xs (i * sz), takeV P e ys (i * sz) with
    | some a, some b => match rec a b, eqAs P rec e sz xs ys is with
      | some p, some q => some (p && q)
      | _, _ => none
    | _, _ => none

/-- '==' of two values of a type of numbers, texts, truth values, structs and arrays of these. -/
def eqV (P : Program) (eqk : TypeId → Bool) : Nat → TypeId → V T → V T → Option Bool
  | 0, _, _, _ => none
  | n + 1, t, x, y =>
    match P.underlying t, x, y with
    | some .bool, .d (.b p), .d (.b q) => some (p == q)
    | some (.int _), .d (.i k a), .d (.i k' b) => if k = k' then some (a == b) else none
    | some .string, .d (.s a), .d (.s b) => some (a == b)
    | some (.struct fs), .agg xs, .agg ys => bif eqk t then eqFs P (eqV P eqk n) xs ys fs.toList else none
    | some (.array len e), .agg xs, .agg ys => match sizeT P e with
      | some sz => eqAs P (eqV P eqk n e) e sz xs ys (List.range len)
      | none => none
    | _, _, _ => none

def un (op : UnOp) : V T → Option (V T)
  | .d (.i k n) =>
    match op with
    | .neg => some (.d (.i k (k.wrap (0 - n))))
    | .xor => some (.d (.i k (k.wrap (BitVec.ofInt k.bits (if k.signed then -1 else k.max) ^^^ BitVec.ofInt k.bits n).toNat)))
    | _ => none
  | .d (.b p) =>
    match op with
    | .not => some (.d (.b !p))
    | _ => none
  | _ => none


def eqOp (op : BinOp) (p : Bool) : Option (Bool × V T) :=
  match op with
  | .eql => some (true, .d (.b p))
  | .neq => some (true, .d (.b (!p)))
  | _ => none

def isIf (P : Program) (t : TypeId) : Bool := match P.underlying t with
  | some (.interface _) => true
  | _ => false

def isBl (P : Program) (t : TypeId) : Bool := match P.underlying t with
  | some .bool => true
  | _ => false

/-- An operation on two values; k: one of them is a constant. -/
def binT (P : Program) (eqk : TypeId → Bool) (k : Bool) (op : BinOp) (t : TypeId) : V T → V T → Option (Bool × V T)
  | .agg xs, .agg ys => bif eqk t then match eqV P eqk 20 t (.agg xs) (.agg ys) with
    | some p => eqOp op p
    | none => none
    else none
  | .d (.b p), .d (.b q) => bif isBl P t then eqOp op (p == q) else none
  | .d .io, .d .ni => bif isIf P t then eqOp op false else none
  | .d .ni, .d .io => bif isIf P t then eqOp op false else none
  | .d .ni, .d .ni => bif isIf P t && k then eqOp op true else none
  | .pv _ _, .d .ni => bif isIf P t then eqOp op false else none
  | .d (.ie p), .d .ni => bif isIf P t && k then eqOp op (!p) else none
  | x, y => bin op x y

def isK : Operand → Bool
  | .const _ => true
  | _ => false

/-- What an operation comes to. -/
inductive Eff (T : TypeId → Type) where
  | val (ok : Bool) (os : List (Obj T)) (v : V T)
  | wr (ok : Bool) (H : List (Obj T)) (v : V T)
  | call (e : CallE T) (q : e.τ → Bool) (g : e.τ → Option (V T))
  | pan (v : V T)

def fieldOf (P : Program) (t : TypeId) (f : Nat) : Option (Nat × TypeId) :=
  match P.underlying t with
  | some (.struct fs) => match fs[f]? with
    | some f => match sizeT P f.type with
      | some 0 => none
      | some _ => some (f.offset, f.type)
      | none => none
    | none => none
  | _ => none

def zeroCells (P : Program) (t : TypeId) : Option (List (V T)) :=
  match P.info? t with
  | some i => match i.zero with
    | some v => some (v.cells.toList.map cV1)
    | none => none
  | none => none

/-- Is it a value of one cell, and known? -/
def oneV : V T → Bool
  | .u => false
  | .gd _ _ _ => false
  | .agg _ => false
  | .tup _ => false
  | _ => true

def kn (v : V T) : Bool := match v with
  | .agg _ => true
  | v => oneV v

/-- The parts of a struct or of an array, put over its zeros. -/
def fillV (place : Nat → Option (Nat × Nat)) (cells : List (V T)) : List (Nat × V T) → Option (List (V T))
  | [] => some cells
  | (i, v) :: rest =>
    match place i with
    | none => none
    | some (off, size) =>
      bif kn v && size.beq v.cells.length && (off + size).ble cells.length then fillV place (putV cells off v.cells) rest else none

def places (P : Program) : List Field → Option (List (Nat × Nat))
  | [] => some []
  | f :: fs => match sizeT P f.type, places P fs with
    | some n, some ps => some ((f.offset, n) :: ps)
    | _, _ => none

def buildV (P : Program) (t : TypeId) (parts : List (Nat × V T)) : Option (V T) :=
  match zeroCells P t, P.underlying t with
  | some zero, some (.struct fs) => match places P fs.toList with
    | some ps => (fillV (fun i => ps[i]?) zero parts).map .agg
    | none => none
  | some zero, some (.array _ e) => match sizeT P e with
    | some size => (fillV (fun i => some (i * size, size)) zero parts).map .agg
    | none => none
  | _, _ => none

/-- Elements of so many cells each. -/
def chunk (c : Cod T) (t : TypeId) (sz : Nat) : Nat → List (V T) → Option (List (T t))
  | 0, _ => some []
  | n + 1, cs => match toDs (cs.take sz) with
    | some ds => match c.dec t ds, chunk c t sz n (cs.drop sz) with
      | some x, some xs => some (x :: xs)
      | _, _ => none
    | none => none

def ofDs (ds : List (D T)) : List (V T) := ds.map .d

def loadV (c : Cfg T) (H : List (Obj T)) (t : TypeId) : V T → Option (V T)
  | .ptr id off => match H[id]? with
    | some (.box cs) => takeV c.P t cs off
    | _ => none
  | .aptr id base e n ix off => match H[id]? with
    | some (.box cs) => match sizeT c.P e with
      | some sz => match chunk c.cod e sz n (cs.drop base) with
        | some xs => takeV c.P t (ofDs (c.cod.enc e (xs.getD ix (c.cod.dflt e)))) off
        | none => none
      | none => none
    | _ => none
  | .eptr id ix off => match H[id]? with
    | some (.arr e xs) => takeV c.P t (ofDs (c.cod.enc e (xs.getD ix (c.cod.dflt e)))) off
    | _ => none
  | .dptr e xs ix off => takeV c.P t (ofDs (c.cod.enc e (xs.getD ix (c.cod.dflt e)))) off
  | .gp g off => match c.gv g with
    | some ds => takeV c.P t (ofDs ds) off
    | none => none
  | _ => none

def storeV (c : Cfg T) (H : List (Obj T)) (t : TypeId) (v : V T) : V T → Option (List (Obj T))
  | .ptr id off => match H[id]?, sizeT c.P t with
    | some (.box cs), some n =>
      bif n.beq v.cells.length && (off + n).ble cs.length && v.cells.all oneV then some (H.set id (.box (putV cs off v.cells))) else none
    | _, _ => none
  | .eptr id ix off => match H[id]?, sizeT c.P t with
    | some (.arr e xs), some n =>
      match toDs (putV (ofDs (c.cod.enc e (xs.getD ix (c.cod.dflt e)))) off v.cells) with
      | some ds =>
        bif n.beq v.cells.length && (off + n).ble ds.length && c.cod.kn e && v.cells.all oneV then
          match c.cod.dec e ds with
          | some x => some (H.set id (.arr e (xs.set ix x)))
          | none => none
        else none
      | none => none
    | _, _ => none
  | _ => none

/-- Is an object there, and not dead? -/
def alive (H : List (Obj T)) (id : Nat) : Bool := match H[id]? with
  | some .dead => false
  | some .unk => false
  | some _ => true
  | none => false

def asI : V T → Option Int
  | .d (.i _ n) => some n
  | _ => none

/-- A part of a list, and if it is one. -/
def cutL {α : Type} (xs : List α) : Option Int → Option Int → Bool × List α
  | none, none => (true, xs)
  | some l, none => (decide (0 ≤ l ∧ l ≤ (xs.length : Int)), xs.drop l.toNat)
  | none, some h => (decide (0 ≤ h ∧ h ≤ (xs.length : Int)), xs.take h.toNat)
  | some l, some h => (decide (0 ≤ l ∧ l ≤ h ∧ h ≤ (xs.length : Int)), (xs.take h.toNat).drop l.toNat)

def cutN (o n : Nat) : Option Int → Option Int → Bool × Nat × Nat
  | none, none => (true, o, n)
  | some l, none => (decide (0 ≤ l ∧ l ≤ (n : Int)), o + l.toNat, n - l.toNat)
  | none, some h => (decide (0 ≤ h ∧ h ≤ (n : Int)), o, h.toNat)
  | some l, some h => (decide (0 ≤ l ∧ l ≤ h ∧ h ≤ (n : Int)), o + l.toNat, h.toNat - l.toNat)

/-- An operand that need not be there. -/
def optI (f : Operand → V T) : Option Operand → Option (Option Int)
  | none => some none
  | some x => match asI (f x) with
    | some n => some (some n)
    | none => none

def sliceV (P : Program) (H : List (Obj T)) (t : TypeId) (lo hi : Option Int) : V T → Option (Bool × V T)
  | .d (.s l) => match P.underlying t with
    | some .string => some ((cutL l lo hi).1, .d (.s (cutL l lo hi).2))
    | _ => none
  | .d (.l e xs) => match P.underlying t with
    | some (.slice e') => bif e'.beq e && (P.info? e').isSome then some ((cutL xs lo hi).1, .d (.l e (cutL xs lo hi).2)) else none
    | _ => none
  | .sl id rng => match P.underlying t, H[id]? with
    | some (.slice e'), some (.arr e xs) =>
      bif e'.beq e && (P.info? e').isSome then
        match rng with
        | none => some ((cutN 0 xs.length lo hi).1, .sl id (some (cutN 0 xs.length lo hi).2))
        | some (o, n) => some ((cutN o n lo hi).1, .sl id (some (cutN o n lo hi).2))
      else none
    | _, _ => none
  | _ => none

def lenV (P : Program) (H : List (Obj T)) (t : TypeId) : V T → Option Nat
  | .d (.s l) => match P.underlying t with
    | some .string => some l.length
    | _ => none
  | .d (.l _ xs) => match P.underlying t with
    | some (.slice _) => some xs.length
    | _ => none
  | .d .ns => match P.underlying t with
    | some (.slice _) => some 0
    | _ => none
  | .sl id rng => match P.underlying t, H[id]?, rng with
    | some (.slice _), some (.arr _ xs), none => some xs.length
    | some (.slice _), some (.arr _ _), some (_, n) => some n
    | _, _, _ => none
  | _ => none

def minI (k : IntKind) (x : Int) : List (V T) → Option (V T)
  | [] => some (.d (.i k x))
  | .d (.i _ y) :: rest => minI k (if y < x then y else x) rest
  | _ => none

def maxI (k : IntKind) (x : Int) : List (V T) → Option (V T)
  | [] => some (.d (.i k x))
  | .d (.i _ y) :: rest => maxI k (if y > x then y else x) rest
  | _ => none

def minV : List (V T) → Option (V T)
  | .d (.i k x) :: rest => minI k x rest
  | _ => none

def maxV : List (V T) → Option (V T)
  | .d (.i k x) :: rest => maxI k x rest
  | _ => none

/-- How long a list may grow that is appended to. -/
def most : Nat := 4294967296

/-- append: to a list of one's own, or to none; the list behind it is a new object, the one ahead of it is dead. -/
def appendV (c : Cfg T) (H : List (Obj T)) (t u : TypeId) (s x : V T) : Option (Bool × List (Obj T) × V T) :=
  match elemT c.P t with
  | none => none
  | some e =>
  bif ((c.P.info? e).map (·.bytes)).any (fun b => Nat.ble b 16384) then
  bif (elemT c.P u).any (·.beq e) && c.cod.kn e && (zeroCells (T := T) c.P e).any (fun z => sizeT c.P e == some z.length) then
  match asL H e x with
  | none => none
  | some ys =>
    match s with
    | .d .ns => some (decide (ys.length < most), H ++ [.arr e ys], .sl H.length none)
    | .sl id rng => match asL H e (.sl id rng) with
      | some xs => some (decide ((xs ++ ys).length < most), H.set id .dead ++ [.arr e (xs ++ ys)], .sl H.length none)
      | none => none
    | _ => none
  else none
  else none

/-- Values as what a call that has no memory of its caller's may take. -/
def argV (H : List (Obj T)) : V T → V T
  | .sl id rng => match H[id]? with
    | some (.arr t xs) => match rng with
      | none => .d (.l t xs)
      | some (o, n) => .d (.l t ((xs.drop o).take n))
    | _ => .u
  | v => v

/-- Zeros in a list of one's own. -/
def clearV (c : Cfg T) (H : List (Obj T)) (t : TypeId) : V T → Option (List (Obj T))
  | .sl id rng => match H[id]?, elemT c.P t with
    | some (.arr e xs), some e' => bif e'.beq e && c.cod.kn e then
        match zeroCells (T := T) c.P e with
        | some zs => bif zs.all oneV && (sizeT c.P e == some zs.length) then
          match toDs zs with
          | some ds => match c.cod.dec e ds with
            | some z => match rng with
              | none => some (H.set id (.arr e (List.replicate xs.length z)))
              | some (o, n) => some (H.set id (.arr e (xs.take o ++ List.replicate n z ++ xs.drop (o + n))))
            | none => none
          | none => none
          else none
        | none => none
      else none
    | _, _ => none
  | _ => none

def builtinV (c : Cfg T) (H : List (Obj T)) (b : Builtin) (ts : Array TypeId) (args : List (V T)) : Option (Eff T) :=
  match b, args with
  | .len, [x] => match ts[0]? with
    | some t => match lenV c.P H t x with
      | some n => some (.val true [] (.d (.i .i64 n)))
      | none => none
    | none => none
  | .append, [s, x] => match ts[0]?, ts[1]? with
    | some t, some u => match appendV c H t u s x with
      | some (ok, H', v) => some (.wr ok H' v)
      | none => none
    | _, _ => none
  | .clear, [x] => match ts[0]? with
    | some t => (clearV c H t x).map (.wr true · .u)
    | none => none
  | .min, xs => (minV xs).map (.val true [])
  | .max, xs => (maxV xs).map (.val true [])
  | _, _ => none

mutual
/-- The objects that a value names. -/
def ids : V T → List Nat
  | .ptr id _ => [id]
  | .aptr id _ _ _ _ _ => [id]
  | .eptr id _ _ => [id]
  | .sl id _ => [id]
  | .mp id => [id]
  | .bp id => [id]
  | .fn _ caps => idsL caps
  | .agg cs => idsL cs
  | .tup cs => idsL cs
  | _ => []
def idsL : List (V T) → List Nat
  | [] => []
  | v :: vs => ids v ++ idsL vs
end

mutual
/-- A value with its objects named anew; of one that has no new name nothing is known. -/
def ren (m : Nat → Option Nat) : V T → V T
  | .ptr id off => match m id with
    | some k => .ptr k off
    | none => .u
  | .aptr id b t n ix off => match m id with
    | some k => .aptr k b t n ix off
    | none => .u
  | .eptr id ix off => match m id with
    | some k => .eptr k ix off
    | none => .u
  | .sl id r => match m id with
    | some k => .sl k r
    | none => .u
  | .mp id => match m id with
    | some k => .mp k
    | none => .u
  | .bp id => match m id with
    | some k => .bp k
    | none => .u
  | .fn f caps => .fn f (renL m caps)
  | .agg cs => .agg (renL m cs)
  | .tup cs => .tup (renL m cs)
  | .gd _ _ _ => .u
  | .u => .u
  | .d x => .d x
  | .dptr t xs ix off => .dptr t xs ix off
  | .gp g off => .gp g off
  | .np => .np
  | .pv t ds => .pv t ds
def renL (m : Nat → Option Nat) : List (V T) → List (V T)
  | [] => []
  | v :: vs => ren m v :: renL m vs
end

def renO (m : Nat → Option Nat) : Obj T → Obj T
  | .box cs => .box (renL m cs)
  | o => o

def objIds : Obj T → List Nat
  | .box cs => idsL cs
  | _ => []

/-- Numbers, each once. -/
def once : List Nat → List Nat → List Nat
  | [], acc => acc
  | x :: xs, acc => once xs (bif acc.any (·.beq x) then acc else acc ++ [x])

/-- All that is reached from some objects, so many steps deep. -/
def reach (H : List (Obj T)) : Nat → List Nat → List Nat
  | 0, l => l
  | n + 1, l => reach H n (once ((l.map fun id => objIds (H.getD id .dead)).flatten) l)

/-- The place of a number in a list. -/
def placeOf (l : List Nat) (id : Nat) : Option Nat := go l 0
where
  go : List Nat → Nat → Option Nat
    | [], _ => none
    | x :: xs, k => bif x.beq id then some k else go xs (k + 1)

/-- The names behind a call: what was handed over, and what is new. -/
def backOf (l : List Nat) (n : Nat) (id : Nat) : Option Nat :=
  match l[id]? with
  | some k => some k
  | none => some (n + (id - l.length))

def putBack (H : List (Obj T)) : List Nat → List (Obj T) → List (Obj T)
  | k :: ks, o :: os => putBack (H.set k o) ks os
  | _, _ => H

mutual
/-- Is there no list in a value? -/
def flatV : V T → Bool
  | .d (.l _ _) => false
  | .d _ => true
  | .agg cs => flatL cs
  | .tup cs => flatL cs
  | .dptr _ _ _ _ => false
  | .fn _ caps => flatL caps
  | .gd _ _ _ => false
  | _ => true
def flatL : List (V T) → Bool
  | [] => true
  | v :: vs => flatV v && flatL vs
end

def flatO (c : Cfg T) : Obj T → Bool
  | .box cs => flatL cs
  | .arr t _ => flatT c.P 20 t && c.cod.kn t
  | .mp _ _ _ => false
  | _ => true

/-- Is it a number, a text or a truth value? -/
def flatD : D T → Bool
  | .b _ => true
  | .i _ _ => true
  | .s _ => true
  | _ => false

def killAll (H : List (Obj T)) : List Nat → List (Obj T)
  | [] => H
  | k :: ks => killAll (H.set k .dead) ks

/-- The lists that are lent to a call. -/
def lent : List (V T) → List Nat
  | [] => []
  | .sl id _ :: vs => id :: lent vs
  | _ :: vs => lent vs

/-- What calls give: one value, or a tuple. -/
def pack : List (V T) → V T
  | [v] => v
  | vs => .tup vs

def handV (c : Cfg T) (H : List (Obj T)) (f : FuncId) (args : List (V T)) : List (V T) := bif c.hd f then args else args.map (argV H)

def lentV (c : Cfg T) (f : FuncId) (args : List (V T)) : List Nat := bif c.hd f then [] else lent args

/-- A call: it is handed the values and the objects that they reach, and nothing else. -/
def callV (c : Cfg T) (H : List (Obj T)) (f : FuncId) (args : List (V T)) : Option (Eff T) :=
  let l := reach H 3 (once (idsL (handV c H f args)) [])
  let m := placeOf l
  bif l.all (·.blt H.length) && (lentV c f args).all (fun i => !l.any (·.beq i)) then
  match c.cf f (renL m (handV c H f args)) (l.map fun id => renO m (H.getD id .dead)) with
  | none => none
  | some e => some (.call { τ := e.τ, val := e.val, dflt := e.dflt, pan := e.pan, penc := e.penc, penh := killAll (putBack H l (List.replicate l.length .unk)) (lentV c f args), enc := fun x =>
      let r := e.enc x
      let b := backOf l H.length
      let H' := putBack H l ((r.2.take l.length).map (renO b)) ++ (r.2.drop l.length).map (renO b)
      (renL b r.1, bif (lentV c f args).isEmpty || (flatL r.1 && r.2.all (flatO c)) then H' else killAll H' (lentV c f args)) }
      (fun x => l.isEmpty && ((lentV c f args).isEmpty || (flatL (e.enc x).1 && (e.enc x).2.all (flatO c))))
      fun x => bif !e.pan x && (l.isEmpty && (e.enc x).2.isEmpty && ((lentV c f args).isEmpty || flatL (e.enc x).1)) then some (ren (fun _ => none) (pack (e.enc x).1)) else none)
  else none

/-- The entries of a map that a value names, if its type is that. -/
def mapV (c : Cfg T) (H : List (Obj T)) (t : TypeId) (m k : V T) : Option ((kk : Option IntKind) × (vt : TypeId) × Nat × KTy kk × List (KTy kk × T vt)) :=
  match m, k, mapT c.P t with
  | .mp id, .d d, some (kt, vt) => match H[id]?, kindOf c.P kt with
    | some (.mp kk vt' es), some kk' =>
      bif (kk' == kk) && vt'.beq vt && c.cod.kn vt' then match keyOf kk d with
        | some k => some ⟨kk, vt', id, k, es⟩
        | none => none
      else none
    | _, _ => none
  | _, _, _ => none

def isAg (P : Program) (t : TypeId) : Bool := isAggT P t == some true

/-- A builder of texts that is new: its cells. -/
def blank : Value → Bool
  | .agg cs => match cs.toList with
    | [.pointer none, .slice none 0 0] => true
    | _ => false
  | _ => false

def newBl (c : Cfg T) (t : TypeId) : Bool := t.beq c.bt && match c.P.info? t with
  | some i => match i.zero with
    | some v => blank v
    | none => false
  | none => false

def isU8 (P : Program) (t : TypeId) : Bool := match P.underlying t, sizeT P t with
  | some (.int .u8), some 1 => true
  | _, _ => false

def convV (c : Cfg T) (H : List (Obj T)) (s d : TypeDesc) (x : V T) : Option (Eff T) :=
  match d, x with
  | .int k, .d (.i _ n) => some (.val true [] (.d (.i k (k.wrap n))))
  | .string, .d (.s l) => some (.val true [] (.d (.s l)))
  | .slice e, .d (.s l) => bif isU8 c.P e && c.cod.kn e  then some (.val true [.arr e (c.cod.ofB e l)] (.sl H.length none)) else none
  | .string, x => match s with
    | .slice e => bif isU8 c.P e && c.cod.kn e then match asL H e x with
      | some xs => some (.val true [] (.d (.s (c.cod.toB e xs))))
      | none => none
      else none
    | _ => none
  | _, _ => none

/-- Cells whose lists are given up: their elements are data from now on. -/
def frzL (H : List (Obj T)) : List (V T) → List (V T) × List (Obj T)
  | [] => ([], H)
  | .sl id rng :: vs => match H[id]? with
    | some (.arr t xs) => match rng with
      | none => (.d (.l t xs) :: (frzL (H.set id .dead) vs).1, (frzL (H.set id .dead) vs).2)
      | some (o, n) => (.d (.l t ((xs.drop o).take n)) :: (frzL (H.set id .dead) vs).1, (frzL (H.set id .dead) vs).2)
    | _ => (.sl id rng :: (frzL H vs).1, (frzL H vs).2)
  | v :: vs => (v :: (frzL H vs).1, (frzL H vs).2)

def frzV (H : List (Obj T)) : V T → V T × List (Obj T)
  | .agg cs => (.agg (frzL H cs).1, (frzL H cs).2)
  | .sl id rng => (((frzL H [.sl id rng]).1.head?).getD .u, (frzL H [.sl id rng]).2)
  | v => (v, H)

def frzP (H : List (Obj T)) : List (Nat × V T) → List (Nat × V T) × List (Obj T)
  | [] => ([], H)
  | (i, v) :: ps => ((i, (frzV H v).1) :: (frzP (frzV H v).2 ps).1, (frzP (frzV H v).2 ps).2)

/-- A slice that is made, of so many zeros. -/
def mksV (c : Cfg T) (t : TypeId) (x : V T) : Option (Bool × Obj T) :=
  match elemT c.P t with
  | some e => match zeroCells (T := T) c.P e with
    | some zs => match toDs zs with
      | some ds => match c.cod.dec e ds with
        | some z => bif c.cod.kn e && ((c.P.info? e).map (·.bytes)).any (fun b => Nat.ble b 16384) && (sizeT c.P e == some zs.length) && Nat.blt 0 zs.length then
            match x with
            | .d (.i .i64 n) => some (decide (0 ≤ n ∧ n ≤ 65536), .arr e (List.replicate n.toNat z))
            | _ => none
          else none
        | none => none
      | none => none
    | none => none
  | none => none

def opR (c : Cfg T) (H : List (Obj T)) (ρ : Operand → V T) (o : Oper) : Option (Eff T) :=
  match o.op with
  | .move x | .assign x => some (.val true [] (ρ x))
  | .alloc t => bif newBl c t then some (.val true [.bl []] (.bp H.length)) else
    match zeroCells c.P t with
    | some cs => some (.val true [.box cs] (.ptr H.length 0))
    | none => none
  | .box t x => match ρ x with
    | .agg cs => bif c.fb t then some (.wr true ((frzL H cs).2 ++ [.box (frzL H cs).1]) (.ptr (frzL H cs).2.length 0)) else some (.val true [.box cs] (.ptr H.length 0))
    | .d x => some (.val true [.box [.d x]] (.ptr H.length 0))
    | .fn f caps => some (.val true [.box [.fn f caps]] (.ptr H.length 0))
    | .sl id rng => some (.val true [.box [.sl id rng]] (.ptr H.length 0))
    | _ => none
  | .build t parts => (buildV c.P t (parts.toList.map fun p => (p.1, ρ p.2))).map (.val true [])
  | .buildSlice t len parts => match elemT c.P t with
    | some e => match sizeT c.P e, zeroCells c.P e with
      | some size, some zero => 
        bif (len * size).ble 16777216 && c.cod.kn e && size.beq zero.length then
        match fillV (fun i => some (i * size, size)) (List.replicate len zero).flatten (parts.toList.map fun p => (p.1, ρ p.2)) with
        | some cells => match chunk c.cod e size len cells with
          | some xs => some (.val true [.arr e xs] (.sl H.length none))
          | none =>
            match fillV (fun i => some (i * size, size)) (List.replicate len zero).flatten (frzP H (parts.toList.map fun p => (p.1, ρ p.2))).1 with
            | some cells => match chunk c.cod e size len cells with
              | some xs => some (.wr true ((frzP H (parts.toList.map fun p => (p.1, ρ p.2))).2 ++ [.arr e xs]) (.sl (frzP H (parts.toList.map fun p => (p.1, ρ p.2))).2.length none))
              | none => none
            | none => none
        | none => none
        else none
      | _, _ => none
    | none => none
  | .load t a => (loadV c H t (ρ a)).map (.val true [])
  | .store t a x => (storeV c H t (ρ x) (ρ a)).map (.wr true · .u)
  | .nilCheck x => match ρ x with
    | .ptr id off => bif alive H id then some (.val true [] (.ptr id off)) else none
    | .eptr id ix off => bif alive H id then some (.val true [] (.eptr id ix off)) else none
    | .dptr t xs ix off => some (.val true [] (.dptr t xs ix off))
    | .bp id => bif alive H id then some (.val true [] (.bp id)) else none
    | _ => none
  | .binOp op t x y _ => match binT c.P c.eqk (isK x || isK y) op t (ρ x) (ρ y) with
    | some (ok, v) => some (.val ok [] v)
    | none => none
  | .unOp op _ x => (un op (ρ x)).map (.val true [])
  | .convert src dst x => match c.P.underlying src, c.P.underlying dst with
    | some s, some d => convV c H s d (ρ x)
    | _, _ => none
  | .slice t x lo hi none => match optI ρ lo, optI ρ hi with
    | some lo, some hi => match sliceV c.P H t lo hi (ρ x) with
      | some (ok, v) => some (.val ok [] v)
      | none => none
    | _, _ => none
  | .fieldAddr t x f => match fieldOf c.P t f with
    | none => none
    | some (off, _) => match ρ x with
      | .ptr id o => bif alive H id then some (.val true [] (.ptr id (o + off))) else none
      | .aptr id b e n ix o => bif alive H id then some (.val true [] (.aptr id b e n ix (o + off))) else none
      | .eptr id ix o => bif alive H id then some (.val true [] (.eptr id ix (o + off))) else none
      | .dptr e xs ix o => some (.val true [] (.dptr e xs ix (o + off)))
      | .gp g o => some (.val true [] (.gp g (o + off)))
      | _ => none
  | .field t x f => match fieldOf c.P t f, ρ x with
    | some (off, u), .agg cs => (takeV c.P u cs off).map (.val true [])
    | _, _ => none
  | .indexAddr t x ix => match asI (ρ ix), c.P.underlying t with
    | some i, some (.slice e) => match ρ x with
      | .d (.l e' xs) => bif e'.beq e && (c.P.info? e).isSome then some (.val (decide (0 ≤ i ∧ i < (xs.length : Int))) [] (.dptr e' xs i.toNat 0)) else none
      | .sl id rng => match H[id]? with
        | some (.arr e' xs) => bif e'.beq e && (c.P.info? e).isSome then
            match rng with
            | none => some (.val (decide (0 ≤ i ∧ i < (xs.length : Int))) [] (.eptr id i.toNat 0))
            | some (o, n) => some (.val (decide (0 ≤ i ∧ i < (n : Int))) [] (.eptr id (o + i.toNat) 0))
          else none
        | _ => none
      | _ => none
    | some i, some (.array n e) => match ρ x with
      | .ptr id off => bif (c.P.info? e).isSome && alive H id then some (.val (decide (0 ≤ i ∧ i < (n : Int))) [] (.aptr id off e n i.toNat 0)) else none
      | .gp g off => match c.gv g, sizeT c.P e with
        | some ds, some sz => match chunk c.cod e sz n ((ofDs ds).drop off) with
          | some xs => some (.val (decide (0 ≤ i ∧ i < (n : Int))) [] (.dptr e xs i.toNat 0))
          | none => none
        | _, _ => none
      | _ => none
    | _, _ => none
  | .index t x ix => match asI (ρ ix), c.P.underlying t, ρ x with
    | some i, some .string, .d (.s l) => some (.val (decide (0 ≤ i ∧ i < (l.length : Int))) [] (.d (.i .u8 ((l.getD i.toNat 0).toNat : Int))))
    | some i, some (.array n e), .agg cs => match sizeT c.P e with
      | some sz => match chunk c.cod e sz n cs with
        | some xs => (takeV c.P e (ofDs (c.cod.enc e (xs.getD i.toNat (c.cod.dflt e)))) 0).map (.val (decide (0 ≤ i ∧ i < (n : Int))) [])
        | none => none
      | none => none
    | _, _, _ => none
  | .makeSlice t (.tmp l) (.tmp m) => bif l.beq m then (mksV c t (ρ (.tmp l))).map (fun p => .val p.1 [p.2] (.sl H.length none)) else none
  | .makeMap t none => match mapT c.P t with
    | some (kt, vt) => match kindOf c.P kt with
      | some kk => bif c.cod.kn vt then some (.val true [.mp kk vt []] (.mp H.length)) else none
      | none => none
    | none => none
  | .lookup t x ix comma => match mapV c H t (ρ x) (ρ ix) with
    | some ⟨kk, vt, _, k, es⟩ =>
      some (.val true [] (bif comma then .tup [valOf (isAg c.P vt) (c.cod.enc vt ((mget kk k es).getD (c.cod.dflt vt))), .d (.b (mget kk k es).isSome)]
        else valOf (isAg c.P vt) (c.cod.enc vt ((mget kk k es).getD (c.cod.dflt vt)))))
    | none => none
  | .mapUpdate t m k v => match mapV c H t (ρ m) (ρ k), toDs (ρ v).cells with
    | some ⟨kk, vt, id, k, es⟩, some ds => match c.cod.dec vt ds with
      | some x => bif aggB (ρ v) == some (isAg c.P vt) then some (.wr true (H.set id (.mp kk vt (mput kk k x es))) .u) else none
      | none => none
    | _, _ => none
  | .insert t m k v => match mapV c H t (ρ m) (ρ k), toDs (ρ v).cells with
    | some ⟨kk, vt, id, k, es⟩, some ds => match c.cod.dec vt ds with
      | some x => bif aggB (ρ v) == some (isAg c.P vt) then some (.wr true (H.set id (.mp kk vt (mput kk k x es))) .u) else none
      | none => none
    | _, _ => none
  | .extract x ix => match ρ x with
    | .tup vs => (vs[ix]?).map (.val true [])
    | _ => none
  | .makeFunc (.func f) first caps => bif first.size.beq 0 then some (.val true [] (.fn f (caps.toList.map ρ))) else none
  | .call k => match k.callee with
    | .builtin b => builtinV c H b k.argTypes (k.args.toList.map ρ)
    | .value f => match ρ f with
      | .fn f caps => callV c H f (k.args.toList.map ρ ++ caps)
      | _ => none
    | _ => none
  | .makeInterface t x => match aggB (ρ x), toDs (ρ x).cells with
    | some b, some ds => bif ds.all flatD && (isAg c.P t == b) && !isIf c.P t && (c.P.underlying t).isSome then some (.val true [] (.pv t ds)) else none
    | _, _ => none
  | .panic x => match ρ x with
    | .pv t ds => some (.pan (.pv t ds))
    | _ => none
  | .typeAssert x _ ty true => match ρ x with
    | .pv t ds => bif t.beq ty && !isIf c.P ty && (c.P.underlying ty).isSome then some (.val true [] (.tup [valOf (isAg c.P ty) ds, .d (.b true)])) else none
    | _ => none
  | _ => none


/-- The guards under which an operation stands: its own, and those of the operation that it asks. -/
def chain (ops : Array Oper) : Nat → Nat × Bool → List (Nat × Bool)
  | 0, _ => []
  | n + 1, g => g :: match (ops[g.1]?).bind (·.guard) with
    | some h => chain ops n h
    | none => []

def yieldV (ops : Array Oper) (s : St T) (j : Nat) : Option Bool :=
  match (ops[j]?).bind (·.dst) with
  | some t => match s.env t with
    | .d (.b p) => some p
    | .gd k w (.d (.b p)) => match (ops[j]?).bind (·.guard) with
      | some (k', w') => bif k'.beq k && (w' == w) then some p else none
      | none => none
    | _ => none
  | none => none

def polar (w p : Bool) : Bool := match w with
  | true => p
  | false => !p

/-- Do all guards of a chain let it by? -/
def lets (ops : Array Oper) (s : St T) : List (Nat × Bool) → Option Bool
  | [] => none
  | [(j, w)] => (yieldV ops s j).map (polar w)
  | (j, w) :: G => match yieldV ops s j, lets ops s G with
    | some p, some q => some (q && polar w p)
    | _, _ => none

/-- Which value's guard is this operand's? -/
def half (ops : Array Oper) (G : List (Nat × Bool)) (s : St T) (c x : Operand) (w : Bool) : V T :=
  match ev s x, c with
  | .gd j w' v, .tmp t =>
    bif G.any (fun p => p.1.beq j && (p.2 == w')) then v
    else bif (w' == w) && ((ops[j]?).bind (·.dst)).any (·.beq t) then v else .u
  | .gd j w' v, _ => bif G.any (fun p => p.1.beq j && (p.2 == w')) then v else .u
  | v, _ => v

/-- pick, of truth values. -/
def pickV (ops : Array Oper) (G : List (Nat × Bool)) (s : St T) (c a b : Operand) : Option (Bool × V T) :=
  match rd s G c, half ops G s c a true, half ops G s c b false with
  | .d (.b p), .d (.b x), .d (.b y) => some (true, .d (.b (cond p x y)))
  | .d (.b p), .d (.b x), _ => some (p, .d (.b x))
  | .d (.b p), _, .d (.b y) => some (!p, .d (.b y))
  | _, _, _ => none

def effE (c : Cfg T) (ops : Array Oper) (s : St T) (G : List (Nat × Bool)) (o : Oper) : Option (Eff T) :=
  match o.op with
  | .pick k a b => (pickV ops G s k a b).map fun r => .val r.1 [] r.2
  | _ => opR c s.heap (rd s G) o

def strip : V T → V T
  | .gd _ _ _ => .u
  | v => v

def isTmp (t : Nat) : Operand → Bool
  | .tmp t' => t'.beq t
  | _ => false

def readsT (o : Oper) (t : Nat) : Bool := o.op.operands.toList.any (isTmp t)

/-- Of a state nothing but what an operation asks. -/
def maskS (s : St T) (o : Oper) : St T := ⟨fun t => bif readsT o t then s.env t else .u, s.heap⟩

/-- A state where no guard is asked any more. -/
def bare (s : St T) (H : List (Obj T)) : St T := ⟨fun i => strip (s.env i), H⟩

/-- Operations one by one, in the text's order; of the first n none may change what is there. -/
def runOps (c : Cfg T) (ops : Array Oper) {ρ : Type} (kp : V T → St T → Option ρ) : Nat → List Oper → St T → (St T → Option ρ) → Option ρ
  | _, [], s, K => K s
  | n, o :: rest, s, K =>
    match o.guard with
    | none =>
      match effE c ops (cond (n.beq 0) s (maskS s o)) [] o with
      | none => none
      | some (.val ok os v) => cond ok (runOps c ops kp (n - 1) rest (St.set ⟨s.env, s.heap ++ os⟩ o.dst (strip v)) K) none
      | some (.wr ok H v) => cond (n.beq 0 && ok) (runOps c ops kp (n - 1) rest (St.set ⟨s.env, H⟩ o.dst (strip v)) K) none
      | some (.call e q _) => e.val.bind fun x => cond (e.pan x) (cond (n.beq 0) (kp (e.penc x) (bare s e.penh)) none)
          (cond (n.beq 0 || q x) (runOps c ops kp (n - 1) rest (St.set ⟨s.env, (e.enc x).2⟩ o.dst (strip (pack (e.enc x).1))) K) none)
      | some (.pan v) => cond (n.beq 0) (kp v (bare s s.heap)) none
    | some g =>
      match lets ops s (chain ops 20 g), effE c ops (cond (n.beq 0) s (maskS s o)) (chain ops 20 g) o with
      | some q, some (.val ok [] v) => cond (ok || !q) (runOps c ops kp (n - 1) rest (St.set s o.dst (.gd g.1 g.2 (strip v))) K) none
      | some q, some (.val ok os v) => cond ((chain ops 20 g).length.blt 20) (cond q (cond ok (runOps c ops kp (n - 1) rest (St.set ⟨s.env, s.heap ++ os⟩ o.dst (strip v)) K) none)
          (runOps c ops kp (n - 1) rest (St.set s o.dst (.gd g.1 g.2 .u)) K)) none
      | some q, some (.wr ok H v) => cond (n.beq 0 && (chain ops 20 g).length.blt 20) (cond q (cond ok (runOps c ops kp (n - 1) rest (St.set ⟨s.env, H⟩ o.dst (strip v)) K) none)
          (runOps c ops kp (n - 1) rest (St.set s o.dst (.gd g.1 g.2 .u)) K)) none
      | some q, some (.call e _ h) =>
        match h e.dflt with
        | some _ => (cond q e.val (some e.dflt)).bind fun x =>
          match h x with
          | some v => runOps c ops kp (n - 1) rest (St.set s o.dst (.gd g.1 g.2 (strip v))) K
          | none => none
        | none => cond (n.beq 0 && (chain ops 20 g).length.blt 20) (cond q (e.val.bind fun x => cond (e.pan x) (kp (e.penc x) (bare s e.penh)) (runOps c ops kp (n - 1) rest (St.set ⟨s.env, (e.enc x).2⟩ o.dst (strip (pack (e.enc x).1))) K))
          (runOps c ops kp (n - 1) rest (St.set s o.dst (.gd g.1 g.2 .u)) K)) none
      | some q, some (.pan v) => cond (n.beq 0 && (chain ops 20 g).length.blt 20) (cond q (kp v (bare s s.heap)) (runOps c ops kp (n - 1) rest (St.set s o.dst (.gd g.1 g.2 .u)) K)) none
      | some q, none => cond q none (runOps c ops kp (n - 1) rest (St.set s o.dst (.gd g.1 g.2 .u)) K)
      | none, _ => none

def stripped (ops : Array Oper) (s : St T) : St T :=
  bif ops.any (·.guard.isSome) then ⟨fun i => strip (s.env i), s.heap⟩ else s

/-- Every result has its place; what guards ask is written once, ahead of them. -/
def regOk (nt : Nat) (ops : Array Oper) : Bool :=
  ops.toList.zipIdx.all fun (o, i) => (o.dst.all (·.blt nt)) &&
    match o.guard with
    | none => true
    | some (j, _) => j.blt i && match (ops[j]?).bind (·.dst) with
      | some t => ops.toList.zipIdx.all fun (o', k) => k.beq j || !(o'.dst.any (·.beq t))
      | none => false

def bitsAll (m : Nat) : Nat → Bool
  | 0 => true
  | n + 1 => m.testBit n && bitsAll m n

/-- What stands ahead of an operation by its edges; L: what stands ahead of the others. -/
def preOf (L : List Nat) (es : List Edge) : Nat := es.foldl (fun s e => bif Region.binds .any e then s ||| ((1 <<< e.on) ||| L.getD e.on 0) else s) 0

def pres : List Oper → List Nat → List Nat
  | [], acc => acc
  | o :: os, acc => match preOf acc o.after.toList with
    | 0 => pres os (acc ++ [0])
    | k + 1 => pres os (acc ++ [k + 1])

/-- May two operations not change places? -/
def clash (x y : Oper) : Bool :=
  (x.dst.any fun d => (y.dst.any (·.beq d)) || readsT y d) || (y.dst.any fun d => readsT x d)

/-- No two operations that no edge orders touch one temporary; what a guard asks stands ahead. -/
def drawOk (ops : Array Oper) : Bool :=
  let L := pres ops.toList []
  (ops.toList.zipIdx.all fun (o, i) =>
    (o.after.toList.all fun e => !Region.binds .any e || e.on.blt i) && (L.getD i 0).beq (preOf L o.after.toList) &&
    (match o.guard with | some (j, _) => (L.getD i 0).testBit j | none => true) &&
    ((ops.toList.take i).zipIdx.all fun (o', k) => !clash o' o || (L.getD i 0).testBit k))

def inN (l : List Nat) (i : Nat) : Bool := l.any (·.beq i)

/-- Of a small heap some objects alone. -/
def maskH (F : List Nat) : Nat → List (Obj T) → List (Obj T)
  | _, [] => []
  | i, o :: os => (bif inN F i then o else .unk) :: maskH F (i + 1) os

/-- A small heap in which some objects have been turned, and others made. -/
def mergeH (F : List Nat) : Nat → List (Obj T) → List (Obj T) → List (Obj T)
  | _, [], ns => ns
  | i, o :: os, n :: ns => (bif inN F i then n else o) :: mergeH F (i + 1) os ns
  | _, o :: os, [] => o :: os

def numsFrom : Nat → Nat → List Nat
  | _, 0 => []
  | i, n + 1 => i :: numsFrom (i + 1) n

def maskD (s : St T) (o : Oper) (F : List Nat) : St T := ⟨fun t => bif readsT o t then s.env t else .u, maskH F 0 s.heap⟩

/-- The objects at which an operation looks. -/
def foot (H : List (Obj T)) (ρ : Operand → V T) (o : Oper) : List Nat :=
  match o.op with
  | .move _ | .assign _ | .pick _ _ _ | .alloc _ | .box _ _ | .build _ _ | .binOp _ _ _ _ _ | .unOp _ _ _ | .field _ _ _ | .extract _ _ | .makeFunc _ _ _ | .makeMap _ _ => []
  | .buildSlice _ _ _ => idsL (o.op.operands.toList.map ρ)
  | .load _ x | .nilCheck x | .fieldAddr _ x _ | .slice _ x _ _ _ | .indexAddr _ x _ | .index _ x _ | .lookup _ x _ _ => ids (ρ x)
  | .convert _ _ x => ids (ρ x)
  | .call k => match k.callee with
    | .builtin .len => idsL (k.args.toList.map ρ)
    | _ => reach H 6 (once (idsL (o.op.operands.toList.map ρ)) [])
  | _ => reach H 6 (once (idsL (o.op.operands.toList.map ρ)) [])

/-- All that some objects name is among some names. -/
def closedO (F : List Nat) : List (Obj T) → Bool
  | [] => true
  | o :: os => (objIds o).all (inN F) && closedO F os

/-- What an operation asks is among some objects, and what they name, too. -/
def closedS (s : St T) (o : Oper) (F : List Nat) : Bool :=
  F.all (·.blt s.heap.length) && closedO F (F.map fun id => s.heap.getD id .dead) &&
  o.op.operands.toList.all fun x => match ev s x with
    | .gd _ _ _ => false
    | v => (ids v).all (inN F)

def apartN (a b : List Nat) : Bool := a.all fun i => !inN b i

/-- What each operation looks at, and what it turns. -/
def fpsOk (p : Nat) : Nat → List (List Nat × List Nat) → List Nat × List Nat → Bool
  | _, [], _ => true
  | i, f :: fs, g => (p.testBit i || (apartN f.2 g.1 && apartN g.2 f.1)) && fpsOk p (i + 1) fs g

def news (s : St T) (n : Nat) : List Nat := numsFrom s.heap.length n

/-- Do all operations behind one wait for it? -/
def laterB (L : List Nat) (i n : Nat) : Bool := (numsFrom 0 n).all fun k => k.ble i || (L.getD k 0).testBit i

/-- Operations of a region that draws its order, as the text has them. -/
def runD (c : Cfg T) (ops : Array Oper) (L : List Nat) {ρ : Type} (kp : V T → St T → Option ρ) : Nat → List (List Nat × List Nat) → List Oper → St T → (St T → Option ρ) → Option ρ
  | _, _, [], s, K => K s
  | i, fs, o :: rest, s, K =>
    match o.guard with
    | none =>
      match effE c ops (maskD s o (foot s.heap (ev s) o)) [] o with
      | none => none
      | some (.val ok os v) => cond (fpsOk (L.getD i 0) 0 fs (foot s.heap (ev s) o, news s os.length))
          (cond ok (runD c ops L kp (i + 1) (fs ++ [(foot s.heap (ev s) o, news s os.length)]) rest (St.set ⟨s.env, s.heap ++ os⟩ o.dst (strip v)) K) none) none
      | some (.wr ok H v) => cond (s.heap.length.ble H.length && fpsOk (L.getD i 0) 0 fs (foot s.heap (ev s) o, foot s.heap (ev s) o ++ news s (H.length - s.heap.length)) && closedS s o (foot s.heap (ev s) o) &&
            (ids v).all (inN (foot s.heap (ev s) o ++ news s (H.length - s.heap.length))) &&
            closedO (foot s.heap (ev s) o ++ news s (H.length - s.heap.length)) ((foot s.heap (ev s) o ++ news s (H.length - s.heap.length)).map fun id => H.getD id .dead))
          (cond ok (runD c ops L kp (i + 1) (fs ++ [(foot s.heap (ev s) o, foot s.heap (ev s) o ++ news s (H.length - s.heap.length))]) rest
            (St.set ⟨s.env, mergeH (foot s.heap (ev s) o) 0 s.heap H⟩ o.dst (strip v)) K) none) none
      | some (.pan _) => none
      | some (.call e q _) => e.val.bind fun x => cond (e.pan x) (cond (fpsOk (L.getD i 0) 0 fs (foot s.heap (ev s) o, []) && laterB L i ops.size) (kp (e.penc x) ⟨fun _ => .u, e.penh⟩) none) <| cond (q x)
          (cond (fpsOk (L.getD i 0) 0 fs (foot s.heap (ev s) o, news s ((e.enc x).2.length - s.heap.length)))
            (runD c ops L kp (i + 1) (fs ++ [(foot s.heap (ev s) o, news s ((e.enc x).2.length - s.heap.length))]) rest
              (St.set ⟨s.env, s.heap ++ (e.enc x).2.drop s.heap.length⟩ o.dst (strip (pack (e.enc x).1))) K) none)
          (cond (s.heap.length.ble (e.enc x).2.length && fpsOk (L.getD i 0) 0 fs (foot s.heap (ev s) o, foot s.heap (ev s) o ++ news s ((e.enc x).2.length - s.heap.length)) && closedS s o (foot s.heap (ev s) o) &&
              (ids (pack (e.enc x).1)).all (inN (foot s.heap (ev s) o ++ news s ((e.enc x).2.length - s.heap.length))) &&
              closedO (foot s.heap (ev s) o ++ news s ((e.enc x).2.length - s.heap.length)) ((foot s.heap (ev s) o ++ news s ((e.enc x).2.length - s.heap.length)).map fun id => (e.enc x).2.getD id .dead))
            (runD c ops L kp (i + 1) (fs ++ [(foot s.heap (ev s) o, foot s.heap (ev s) o ++ news s ((e.enc x).2.length - s.heap.length))]) rest
              (St.set ⟨s.env, mergeH (foot s.heap (ev s) o) 0 s.heap (e.enc x).2⟩ o.dst (strip (pack (e.enc x).1))) K) none)
    | some g =>
      match lets ops s (chain ops 20 g), effE c ops (maskD s o (foot s.heap (rd s (chain ops 20 g)) o)) (chain ops 20 g) o with
      | some q, some (.val ok [] v) => cond (fpsOk (L.getD i 0) 0 fs (foot s.heap (rd s (chain ops 20 g)) o, []))
          (cond (ok || !q) (runD c ops L kp (i + 1) (fs ++ [(foot s.heap (rd s (chain ops 20 g)) o, [])]) rest (St.set s o.dst (.gd g.1 g.2 (strip v))) K) none) none
      | some q, some (.call e _ h) => (cond q e.val (some e.dflt)).bind fun x =>
          match h x with
          | some v => cond (fpsOk (L.getD i 0) 0 fs (foot s.heap (rd s (chain ops 20 g)) o, []))
              (runD c ops L kp (i + 1) (fs ++ [(foot s.heap (rd s (chain ops 20 g)) o, [])]) rest (St.set s o.dst (.gd g.1 g.2 (strip v))) K) none
          | none => none
      | _, _ => none

inductive Ex where
  | norm
  | exit (id : Nat)

/-- Code with places marked at which a function of one's own says what it comes to. -/
inductive AC (T : TypeId → Type) (ρ : Type) where
  | skip
  | reg (id : Nat) (ops : Array Oper) (draw : Bool)
  | seq (a b : AC T ρ)
  | cnd (c : Operand) (a b : AC T ρ)
  | block (id : Nat) (a : AC T ρ)
  | exit (id : Nat)
  | ret
  | cut (c : Code) (f : St T → (Ex → St T → Option ρ) → Option ρ)
  | bad (c : Code)

def AC.code {ρ : Type} : AC T ρ → Code
  | .skip => .skip
  | .reg id ops draw => .region id ops draw
  | .seq a b => .seq a.code b.code
  | .cnd c a b => .cond c a.code b.code
  | .block id a => .block id a.code
  | .exit id => .exit id
  | .ret => .ret
  | .cut c _ => c
  | .bad c => c

/-- The first region of a code. -/
def key : Code → Nat
  | .region id _ _ => id
  | .seq a _ => key a
  | .block _ a => key a
  | .loop a => key a
  | _ => 1000000

abbrev Cuts (T : TypeId → Type) (ρ : Type) := Nat → Option (St T → (Ex → St T → Option ρ) → Option ρ)

def annot {ρ : Type} (k : Cuts T ρ) : Code → AC T ρ
  | .skip => .skip
  | .region id ops draw => .reg id ops draw
  | .seq a b => .seq (annot k a) (match k (2 * key b) with
    | some f => .cut b f
    | none => annot k b)
  | .cond c a b => .cnd c (annot k a) (annot k b)
  | .block id a => .block id (annot k a)
  | .exit id => .exit id
  | .ret => .ret
  | .loop a => match k (2 * key a + 1) with
    | some f => .cut (.loop a) f
    | none => .bad (.loop a)
  | c => .bad c

theorem annot_code {ρ : Type} (k : Cuts T ρ) : ∀ c : Code, (annot k c).code = c
  | .skip | .region _ _ _ | .exit _ | .ret | .refuse _ | .rangeFunc _ _ _ _ | .scope _ | .label _ | .goto _ => rfl
  | .seq a b => by
    simp only [annot, AC.code, annot_code k a]
    split
    · rfl
    · rw [annot_code k b]
  | .cond c a b => by simp only [annot, AC.code, annot_code k a, annot_code k b]
  | .block id a => by simp only [annot, AC.code, annot_code k a]
  | .loop a => by
    simp only [annot]
    split <;> rfl

def runK (c : Cfg T) (nt : Nat) {ρ : Type} (kr : Kr T ρ) : AC T ρ → St T → (Ex → St T → Option ρ) → Option ρ
  | .skip, s, K => K .norm s
  | .reg _ ops draw, s, K =>
    cond draw (cond (regOk nt ops && drawOk ops) (runD c ops (pres ops.toList []) kr.pan 0 [] ops.toList s fun s' => K .norm (stripped ops s')) none)
      (cond (regOk nt ops) (runOps c ops kr.pan 0 ops.toList s fun s' => K .norm (stripped ops s')) none)
  | .seq a b, s, K => runK c nt kr a s fun ex s' => match ex with
    | .norm => runK c nt kr b s' K
    | .exit id => K (.exit id) s'
  | .cnd x a b, s, K => match ev s x with
    | .d (.b p) => cond p (runK c nt kr a s K) (runK c nt kr b s K)
    | _ => none
  | .block id a, s, K => runK c nt kr a s fun ex s' => match ex with
    | .norm => K .norm s'
    | .exit id' => bif id'.beq id then K .norm s' else K (.exit id') s'
  | .exit id, s, K => K (.exit id) s
  | .ret, s, _ => kr.ret s
  | .cut _ f, s, K => f s K
  | .bad _, _, _ => none

/-- What is done to a temporary where states are made alike: a list is made one's own, or given up; a struct's cells are written as its type is read. -/
inductive Sp where
  | own (t : Nat) (ty : TypeId)
  | frz (t : Nat) (ty : TypeId)
  | box (t : Nat) (ty : TypeId)
  | agg (t : Nat) (ty : TypeId)
  | cell (t i : Nat) (ty : TypeId)
  | rng (t : Nat) (ty : TypeId)

def upd (env : Nat → V T) (t : Nat) (v : V T) : Nat → V T := fun i => bif i.beq t then v else env i

def step1 (c : Cfg T) (s : St T) : Sp → Option (St T)
  | .own t ty => match s.env t with
    | .d .ns => some ⟨upd s.env t (.sl s.heap.length none), s.heap ++ [.arr ty []]⟩
    | .sl id none => match s.heap[id]? with
      | some (.arr ty' _) => bif ty'.beq ty then some s else none
      | _ => none
    | .sl id (some r) => match asL s.heap ty (.sl id (some r)) with
      | some xs => some ⟨upd s.env t (.sl s.heap.length none), s.heap.set id .dead ++ [.arr ty xs]⟩
      | none => none
    | _ => none
  | .frz t ty => match s.env t with
    | .d (.l t' _) => bif t'.beq ty then some s else none
    | .d .ns => some ⟨upd s.env t (.d (.l ty [])), s.heap⟩
    | .sl id rng => match asL s.heap ty (.sl id rng) with
      | some xs => some ⟨upd s.env t (.d (.l ty xs)), s.heap.set id .dead⟩
      | none => none
    | _ => none
  | .box t ty => match s.env t with
    | .ptr id 0 => match s.heap[id]? with
      | some (.box cs) => match toDs cs with
        | some ds => match c.cod.dec ty ds with
          | some x => some ⟨s.env, s.heap.set id (.box (ofDs (c.cod.enc ty x)))⟩
          | none => none
        | none => match toDs (frzL s.heap cs).1 with
          | some ds => match c.cod.dec ty ds with
            | some x => some ⟨s.env, (frzL s.heap cs).2.set id (.box (ofDs (c.cod.enc ty x)))⟩
            | none => none
          | none => none
      | _ => none
    | _ => none
  | .agg t ty => match s.env t with
    | .agg cs => match toDs cs with
      | some ds => match c.cod.dec ty ds with
        | some x => some ⟨upd s.env t (.agg (ofDs (c.cod.enc ty x))), s.heap⟩
        | none => none
      | none => match toDs (frzL s.heap cs).1 with
        | some ds => match c.cod.dec ty ds with
          | some x => some ⟨upd s.env t (.agg (ofDs (c.cod.enc ty x))), (frzL s.heap cs).2⟩
          | none => none
        | none => none
    | _ => none
  | .cell t i ty => match s.env t with
    | .ptr id 0 => match s.heap[id]? with
      | some (.box cs) => match cs[i]? with
        | some (.d .ns) => some ⟨s.env, (s.heap ++ [Obj.arr ty []]).set id (.box (cs.set i (.sl s.heap.length none)))⟩
        | some (.sl _ none) => some s
        | _ => none
      | _ => none
    | _ => none
  | .rng t ty => match s.env t with
    | .sl id rng => match asL s.heap ty (.sl id rng) with
      | some xs => some ⟨upd s.env t (.sl s.heap.length none), s.heap.set id .dead ++ [.arr ty xs]⟩
      | none => none
    | _ => none

def steps (c : Cfg T) : List Sp → St T → Option (St T)
  | [], s => some s
  | p :: ps, s => match step1 c s p with
    | some s' => steps c ps s'
    | none => none

/-- A state with nothing but what is kept, its objects named by the order in which they are met; the first m keep their names. -/
def gc (m : Nat) (live : List Nat) (s : St T) : Option (List (V T) × List (Obj T)) :=
  let vs := live.map s.env
  let l := reach s.heap 3 (once (List.range m ++ idsL vs) [])
  bif l.all (·.blt s.heap.length) then some (renL (placeOf l) vs, l.map fun id => renO (placeOf l) (s.heap.getD id .dead)) else none

def norm (c : Cfg T) (m : Nat) (live : List Nat) (ps : List Sp) (s : St T) : Option (List (V T) × List (Obj T)) :=
  match steps c ps s with
  | some s' => gc m live s'
  | none => none

def envOf : List Nat → List (V T) → Nat → V T
  | t :: ts, v :: vs, i => bif i.beq t then strip v else envOf ts vs i
  | _, _, _ => .u

def mkSt (live : List Nat) (nf : List (V T) × List (Obj T)) : St T := ⟨envOf live nf.1, nf.2⟩

end Go.Ev
