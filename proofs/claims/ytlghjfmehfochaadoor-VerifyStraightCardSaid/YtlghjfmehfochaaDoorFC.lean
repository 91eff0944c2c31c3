/- The operations. -/
import Derived.Test.YtlghjfmehfochaaDoorFB2
set_option linter.all false
namespace Go.F
open Go.RowKit

abbrev Fr := Nat → AVal

inductive FOpd where
  | tmp (i : Nat)
  | val (v : AVal)
  deriving Inhabited

def evalO (t : Fr) : FOpd → AVal
  | .tmp i => t i
  | .val v => v

def cO : Operand → FOpd
  | .tmp i => .tmp i
  | .const v => .val (constV v)
  | .global g => .val (.ptr (.base ⟨g, 0, none⟩))
  | .func f => .val (.fn f [])

/-- what a comparison is of -/
inductive Cls where
  | bool | pointer | slice | func | other
  | flat (n : Nat) (offs : List (Nat × Nat))
  deriving DecidableEq

inductive FOp where
  | mov (x : FOpd)
  | pick (c a b : FOpd)
  | alloc (ty : TypeId) (cells : List AVal)
  | box (ty : TypeId) (x : FOpd)
  | build (zero : List AVal) (parts : List (Nat × Nat × FOpd))
  | bslice (ty esz : Nat) (zero : List AVal) (len : Nat) (parts : List (Nat × Nat × FOpd))
  | load (n : Option Nat) (x : FOpd)
  | store (n : Nat) (a x : FOpd)
  | nilchk (x : FOpd)
  | bin (op : BinOp) (cls : Cls) (x y : FOpd)
  | un (op : UnOp) (x : FOpd)
  | conv (k : IntKind) (x : FOpd)
  | mkfn (f : Nat) (caps : List FOpd)
  | sliceS (x : FOpd) (lo hi : Option FOpd)
  | slice (ty esz : Nat) (x : FOpd) (lo hi mx : Option FOpd)
  | faddr (off : Nat) (x : FOpd)
  | field (off : Nat) (n : Option Nat) (x : FOpd)
  | iaddr (esz : Nat) (x i : FOpd)
  | iaddrA (len esz : Nat) (x i : FOpd)
  | indexS (x i : FOpd)
  | extract (x : FOpd) (i : Nat)
  | len (st : Bool) (x : FOpd)
  | append (ty esz bytes : Nat) (s x : FOpd)
  | clear (esz : Nat) (z : Array Value) (x : FOpd)
  | mkmth (f : Nat) (first : List FOpd)
  | s2b (ty : Nat) (same : Bool) (x : FOpd)
  | b2s (x : FOpd)
  | mkslice (ty bytes : Nat) (zero : List AVal) (x y : FOpd)
  | call (f : FOpd) (args : List FOpd)

structure FOper where
  dst : Option Nat
  guard : Option (Nat × Bool)
  op : FOp

def put (t : Fr) (i : Nat) (v : AVal) : Fr := fun j => if j = i then v else t j

def putO (t : Fr) (d : Option Nat) (v : AVal) : Fr := match d with | some i => put t i v | none => t

/-- the cells of a value -/
def cellsOf : AVal → Option (List AVal)
  | .any => none
  | .tup _ => none
  | .agg l => some l
  | v => some [v]

def setL (l : List AVal) (off : Nat) : List AVal → List AVal
  | [] => l
  | v :: r => setL (l.set off v) (off + 1) r

def scalar : AVal → Bool
  | .any => false
  | .agg _ => false
  | .tup _ => false
  | _ => true

def fillA (cells : List AVal) : List (Nat × Nat × AVal) → Option (List AVal)
  | [] => some cells
  | (off, size, v) :: r => match cellsOf v with
    | some l => if l.length = size ∧ off + size ≤ cells.length then fillA (setL cells off l) r else none
    | none => none

def arithI (op : BinOp) (k : IntKind) (a b : Int) : Option AVal :=
  match op with
  | .add => some (.int k (k.wrap (a + b)))
  | .sub => some (.int k (k.wrap (a - b)))
  | .mul => some (.int k (k.wrap (a * b)))
  | .quo => if b = 0 then none else some (.int k (k.wrap (a.tdiv b)))
  | .rem => if b = 0 then none else some (.int k (a.tmod b))
  | .and => some (.int k (k.wrap ((BitVec.ofInt k.bits a &&& BitVec.ofInt k.bits b).toNat)))
  | .or => some (.int k (k.wrap ((BitVec.ofInt k.bits a ||| BitVec.ofInt k.bits b).toNat)))
  | .xor => some (.int k (k.wrap ((BitVec.ofInt k.bits a ^^^ BitVec.ofInt k.bits b).toNat)))
  | .eql => some (.bool (a == b))
  | .neq => some (.bool (a != b))
  | .lss => some (.bool (decide (a < b)))
  | .leq => some (.bool (decide (a ≤ b)))
  | .gtr => some (.bool (decide (a > b)))
  | .geq => some (.bool (decide (a ≥ b)))
  | _ => none

def shiftI (op : BinOp) (k : IntKind) (a b : Int) : Option AVal :=
  if b < 0 then none else
  match op with
  | .shl => some (.int k (k.wrap (a * 2 ^ (min b.toNat k.bits))))
  | .shr => some (.int k (a.fdiv (2 ^ (min b.toNat k.bits))))
  | _ => none

def strI (op : BinOp) (a b : ByteArray) : Option AVal :=
  match op with
  | .add => if a.size + b.size ≤ 9223372036854775807 then some (.str (a ++ b)) else none
  | .eql => some (.bool (a.toList == b.toList))
  | .neq => some (.bool (!(a.toList == b.toList)))
  | _ => none

/-- two cells that can be compared: 0 bools, 1 numbers, 2 texts -/
def eqOne : Nat → AVal → AVal → Option Bool
  | 0, .bool a, .bool b => some (a == b)
  | 1, .int k a, .int k' b => if k = k' then some (a == b) else none
  | 2, .str a, .str b => some (a.toList == b.toList)
  | _, _, _ => none

def eqOffs (xs ys : List AVal) : List (Nat × Nat) → Option Bool
  | [] => some true
  | i :: r => match xs[i.1]?, ys[i.1]? with
    | some x, some y => match eqOne i.2 x y, eqOffs xs ys r with
      | some b, some b' => some (b && b')
      | _, _ => none
    | _, _ => none

def eqFlat (cls : Cls) (xs ys : List AVal) : Option Bool :=
  match cls with
  | .flat n offs => if xs.length = n ∧ ys.length = n then eqOffs xs ys offs else none
  | _ => none

/-- equal or not, where one side may be nil -/
def eqI (cls : Cls) : AVal → AVal → Option Bool
  | .bool a, .bool b => if cls = .bool then some (a == b) else none
  | .nilp, .nilp => if cls = .pointer then some true else none
  | .nilp, .ptr _ => if cls = .pointer then some false else none
  | .ptr _, .nilp => if cls = .pointer then some false else none
  | .nils, .nils => if cls = .slice then some true else none
  | .nils, .arr _ _ => if cls = .slice then some false else none
  | .nils, .slc _ _ => if cls = .slice then some false else none
  | .arr _ _, .nils => if cls = .slice then some false else none
  | .slc _ _, .nils => if cls = .slice then some false else none
  | .nilf, .nilf => if cls = .func then some true else none
  | .nilf, .fn _ _ => if cls = .func then some false else none
  | .fn _ _, .nilf => if cls = .func then some false else none
  | _, _ => none

def binA (op : BinOp) (cls : Cls) (x y : AVal) : Option AVal :=
  match x, y with
  | .int k a, .int k' b =>
    match op with
    | .shl | .shr => shiftI op k a b
    | _ => if k = k' then arithI op k a b else none
  | .str a, .str b => strI op a b
  | .agg xs, .agg ys => match op with
    | .eql => (eqFlat cls xs ys).map .bool
    | .neq => (eqFlat cls xs ys).map fun b => .bool (!b)
    | _ => none
  | x, y => match op with
    | .eql => (eqI cls x y).map .bool
    | .neq => (eqI cls x y).map fun b => .bool (!b)
    | _ => none

def unA (op : UnOp) (x : AVal) : Option AVal :=
  match op, x with
  | .neg, .int k n => some (.int k (k.wrap (0 - n)))
  | .not, .bool b => some (.bool (!b))
  | _, _ => none

def asI : AVal → Option Int
  | .int _ n => some n
  | _ => none

def bytesL (s : ByteArray) : List AVal := s.data.toList.map fun b => .int .u8 b.toNat

/-- how many elements a slice or a string has, and their cells -/
def srcCells (C : Ctx) (H : AHeap) (esz : Nat) : AVal → Option (Nat × List AVal)
  | .nils => some (0, [])
  | .arr id n => (ldn C H (.loc id 0) 0 (n * esz)).map fun l => (n, l)
  | .slc a n => (ldn C H a 0 (n * esz)).map fun l => (n, l)
  | .str s => some (s.size, bytesL s)
  | _ => none

def appendA (C : Ctx) (p : Nat) (H : AHeap) (ty esz bytes : Nat) (s x : AVal) : Option (AVal × AHeap) :=
  match srcCells C H esz x with
  | none => none
  | some (m, news) =>
    if news.length = m * esz ∧ news.all scalar = true then
      match s with
      | .nils => if m = 0 then some (.nils, H) else if m * bytes ≤ 140737488355328 then some (.arr p m, setAt H p ⟨news, ty⟩) else none
      | .arr id n => match hget H id with
        | some b =>
          if b.ty = ty ∧ n * esz ≤ b.cells.length ∧ (n + m) * bytes ≤ 140737488355328 then
            if (n + m) * esz ≤ b.cells.length then some (.arr id (n + m), H.set id (some ⟨setL b.cells (n * esz) news, b.ty⟩))
            else some (.arr p (n + m), setAt (H.set id none) p ⟨b.cells.take (n * esz) ++ news, ty⟩)
          else none
        | none => none
      | _ => none
    else none

def storeA (H : AHeap) (n : Nat) (a x : AVal) : Option AHeap :=
  match a with
  | .ptr (.loc id off) => match hget H id, cellsOf x with
    | some b, some l => if l.length = n ∧ off + n ≤ b.cells.length ∧ l.all scalar = true then some (H.set id (some ⟨setL b.cells off l, b.ty⟩)) else none
    | _, _ => none
  | _ => none

def loadA (C : Ctx) (H : AHeap) (n : Option Nat) (a : AVal) : Option AVal :=
  match a with
  | .ptr p => match n with
    | none => ldc C H p 0
    | some n => (ldn C H p 0 n).map .agg
  | _ => none

def addA : AAd → Nat → AAd
  | .loc id off, n => .loc id (off + n)
  | .base a, n => .base (a.add n)

/-- a bound of a slice expression -/
def bnd (t : Fr) (d : Int) : Option FOpd → Option Int
  | none => some d
  | some x => asI (evalO t x)

/-- low and high; n: the length; k: so many cells are known -/
def sliceN (t : Fr) (n k esz : Nat) (lo hi mx : Option FOpd) : Option (Nat × Nat) :=
  match bnd t 0 lo, bnd t n hi, bnd t n mx with
  | some l, some h, some m => if 0 ≤ l ∧ l ≤ h ∧ (h ≤ n ∨ (mx = none ∧ h.toNat * esz ≤ k)) ∧ (mx = none ∨ (hi ≠ none ∧ h ≤ m ∧ m ≤ n)) then some (l.toNat, h.toNat) else none
  | _, _, _ => none

def sliceA (H : AHeap) (t : Fr) (ty esz : Nat) (x : AVal) (lo hi mx : Option FOpd) : Option AVal :=
  match x with
  | .nils => (sliceN t 0 0 esz lo hi mx).map fun _ => .nils
  | .arr id n =>
    let k := match hget H id with | some b => if b.ty = ty then b.cells.length else 0 | none => 0
    (sliceN t n k esz lo hi mx).map fun lh => if lo.isNone && mx.isNone then .arr id lh.2 else .slc (.loc id (lh.1 * esz)) (lh.2 - lh.1)
  | .slc a n => (sliceN t n 0 esz lo hi mx).map fun lh => .slc (addA a (lh.1 * esz)) (lh.2 - lh.1)
  | _ => none

def sliceStr (t : Fr) (x : AVal) (lo hi : Option FOpd) : Option AVal :=
  match x with
  | .str s => match bnd t 0 lo, bnd t s.size hi with
    | some l, some h => if 0 ≤ l ∧ l ≤ h ∧ h ≤ s.size then some (.str (s.extract l.toNat h.toNat)) else none
    | _, _ => none
  | _ => none

def iaddrO (esz : Nat) (x i : AVal) : Option AVal :=
  match x, i with
  | .arr id n, .int _ j => if 0 ≤ j ∧ j < n then some (.ptr (.loc id (j.toNat * esz))) else none
  | .slc a n, .int _ j => if 0 ≤ j ∧ j < n then some (.ptr (addA a (j.toNat * esz))) else none
  | _, _ => none

def iaddrArr (len esz : Nat) (x i : AVal) : Option AVal :=
  match x, i with
  | .ptr a, .int _ j => if 0 ≤ j ∧ j < len then some (.ptr (addA a (j.toNat * esz))) else none
  | _, _ => none

def indexStr (x i : AVal) : Option AVal :=
  match x, i with
  | .str s, .int _ j => if 0 ≤ j then (s[j.toNat]?).map fun b => .int .u8 b.toNat else none
  | _, _ => none

def lenA (st : Bool) : AVal → Option Nat
  | .arr _ n => if st then none else some n
  | .slc _ n => if st then none else some n
  | .nils => if st then none else some 0
  | .str s => if st then some s.size else none
  | _ => none

def fieldA (off : Nat) (n : Option Nat) (x : AVal) : Option AVal :=
  match x with
  | .agg l => match n with
    | none => l[off]?
    | some n => if off + n ≤ l.length then some (.agg ((l.drop off).take n)) else none
  | _ => none

def nilchkA : AVal → Option AVal
  | .ptr a => some (.ptr a)
  | .fn f c => some (.fn f c)
  | .mth f c => some (.mth f c)
  | _ => none

def evalP (t : Fr) (parts : List (Nat × Nat × FOpd)) : List (Nat × Nat × AVal) := parts.map fun p => (p.1, p.2.1, evalO t p.2.2)

/-- clear(x): only over cells that are known -/
def clearA (H : AHeap) (z : Array Value) (esz : Nat) (x : AVal) : Option AHeap :=
  match x with
  | .nils => some H
  | .slc (.loc id off) n => if n = 0 then some H else match hget H id with
    | some b => if off + n * esz ≤ b.cells.length then some (H.set id (some ⟨setL b.cells off ((Builtin.zeroCells z n).toList.map baseV), b.ty⟩)) else none
    | none => none
  | _ => none

/-- the numbers that a row of bytes holds -/
def intsOf : List AVal → Option (List Int)
  | [] => some []
  | .int .u8 n :: r => (intsOf r).map (n :: ·)
  | _ => none

def pushAll (ns : List Int) : ByteArray := ns.foldl (fun r n => r.push (UInt8.ofNat n.toNat)) ByteArray.empty

def b2sA (C : Ctx) (H : AHeap) : AVal → Option AVal
  | .nils => some (.str ByteArray.empty)
  | .arr id n => match ldn C H (.loc id 0) 0 n with | some l => (intsOf l).map fun ns => .str (pushAll ns) | none => none
  | .slc a n => match ldn C H a 0 n with | some l => (intsOf l).map fun ns => .str (pushAll ns) | none => none
  | _ => none

def s2bA (p : Nat) (H : AHeap) (ty : Nat) (same : Bool) : AVal → Option (AVal × AHeap)
  | .str s => some (.arr p s.size, setAt H p ⟨bytesL s, ty⟩)
  | .arr id n => if same = true ∧ (hget H id).isSome = true then some (.arr id n, H) else none
  | _ => none

def zerosA (z : List AVal) (n : Nat) : List AVal := (List.range (n * z.length)).map fun j => z.getD (j % z.length) .any

def mksliceA (p : Nat) (H : AHeap) (ty bytes : Nat) (z : List AVal) (x y : AVal) : Option (AVal × AHeap) :=
  match x, y with
  | .int .i64 l, .int .i64 c => if 0 ≤ l ∧ l ≤ c ∧ c.toNat * bytes ≤ 140737488355328 ∧ c ≤ 140737488355328 then some (.arr p l.toNat, setAt H p ⟨zerosA z c.toNat, ty⟩) else none
  | _, _ => none

/-- What an operation that calls nothing gives. -/
def stepAt (C : Ctx) (p : Nat) (t : Fr) (H : AHeap) : FOp → Option (AVal × AHeap)
  | .mov x => some (evalO t x, H)
  | .pick c a b => match evalO t c with
    | .bool bb => some (if bb then evalO t a else evalO t b, H)
    | _ => none
  | .alloc ty cells => some (.ptr (.loc p 0), setAt H p ⟨cells, ty⟩)
  | .box ty x => match cellsOf (evalO t x) with
    | some l => some (.ptr (.loc p 0), setAt H p ⟨l, ty⟩)
    | none => none
  | .build zero parts => (fillA zero (evalP t parts)).map fun l => (.agg l, H)
  | .bslice ty _ zero len parts => (fillA zero (evalP t parts)).map fun l => (.arr p len, setAt H p ⟨l, ty⟩)
  | .load n x => (loadA C H n (evalO t x)).map fun v => (v, H)
  | .store n a x => (storeA H n (evalO t a) (evalO t x)).map fun H' => (.any, H')
  | .nilchk x => (nilchkA (evalO t x)).map fun v => (v, H)
  | .bin op cls x y => (binA op cls (evalO t x) (evalO t y)).map fun v => (v, H)
  | .un op x => (unA op (evalO t x)).map fun v => (v, H)
  | .conv k x => (asI (evalO t x)).map fun n => (.int k (k.wrap n), H)
  | .mkfn f caps => some (.fn f (caps.map (evalO t)), H)
  | .sliceS x lo hi => (sliceStr t (evalO t x) lo hi).map fun v => (v, H)
  | .slice ty esz x lo hi mx => (sliceA H t ty esz (evalO t x) lo hi mx).map fun v => (v, H)
  | .faddr off x => match evalO t x with
    | .ptr a => some (.ptr (addA a off), H)
    | _ => none
  | .field off n x => (fieldA off n (evalO t x)).map fun v => (v, H)
  | .iaddr esz x i => (iaddrO esz (evalO t x) (evalO t i)).map fun v => (v, H)
  | .iaddrA len esz x i => (iaddrArr len esz (evalO t x) (evalO t i)).map fun v => (v, H)
  | .indexS x i => (indexStr (evalO t x) (evalO t i)).map fun v => (v, H)
  | .extract x i => match evalO t x with
    | .tup l => (l[i]?).map fun v => (v, H)
    | _ => none
  | .len st x => (lenA st (evalO t x)).map fun (n : Nat) => (.int .i64 n, H)
  | .append ty esz bytes s x => appendA C p H ty esz bytes (evalO t s) (evalO t x)
  | .clear esz z x => (clearA H z esz (evalO t x)).map fun H' => (.tup [], H')
  | .mkmth f first => some (.mth f (first.map (evalO t)), H)
  | .s2b ty same x => s2bA p H ty same (evalO t x)
  | .b2s x => (b2sA C H (evalO t x)).map fun v => (v, H)
  | .mkslice ty bytes z x y => mksliceA p H ty bytes z (evalO t x) (evalO t y)
  | .call _ _ => none

/-- a new block stands behind all -/
def stepOp (C : Ctx) (t : Fr) (H : AHeap) (o : FOp) : Option (AVal × AHeap) := stepAt C H.length t H o

/-! the translation -/
def sizeT (P : Program) (t : TypeId) : Option Nat := (P.info? t).map (·.size)

def aggD : TypeDesc → Bool
  | .struct _ => true
  | .array _ _ => true
  | _ => false

def aggT (P : Program) (t : TypeId) : Option Bool := (P.underlying t).map aggD

def optSize (P : Program) (t : TypeId) : Option (Option Nat) :=
  match aggT P t, sizeT P t with
  | some true, some n => some (some n)
  | some false, some _ => some none
  | _, _ => none

/-- where the cells lie that '==' looks at, in a type of plain cells -/
def flatF (g : TypeId → Option (List (Nat × Nat))) (P : Program) (N : Nat) : List Field → Option (List (Nat × Nat))
  | [] => some []
  | f :: r => if f.name = "_" then none else match P.underlying f.type, flatF g P N r with
    | some .bool, some l => if optSize P f.type = some none then some ((f.offset, 0) :: l) else none
    | some (.int _), some l => if optSize P f.type = some none then some ((f.offset, 1) :: l) else none
    | some .string, some l => if optSize P f.type = some none then some ((f.offset, 2) :: l) else none
    | some (.struct _), some l => match g f.type, optSize P f.type with
      | some l', some (some n) => if f.offset + n ≤ N ∧ l'.all (·.1 < n) = true then some (l'.map (fun p => (f.offset + p.1, p.2)) ++ l) else none
      | _, _ => none
    | _, _ => none

def flatT (P : Program) : Nat → TypeId → Option (List (Nat × Nat))
  | 0, _ => none
  | d + 1, t => if P.stoodInHeld t then none else match P.underlying t, sizeT P t with
    | some (.struct fs), some N => flatF (flatT P d) P N fs.toList
    | _, _ => none

def flatCls (P : Program) (t : TypeId) : Cls :=
  match flatT P 8 t, sizeT P t with
  | some l, some n => if P.eqGuardType P.depth t then .other else .flat n l
  | _, _ => .other

def clsT (P : Program) (t : TypeId) : Cls :=
  match P.underlying t with
  | some (.struct _) => flatCls P t
  | some .bool => .bool
  | some (.pointer _) => .pointer
  | some (.slice _) => .slice
  | some (.func _ _ _) => .func
  | _ => .other

def partsT (place : Nat → Option (Nat × Nat)) : List (Nat × Operand) → Option (List (Nat × Nat × FOpd))
  | [] => some []
  | (i, x) :: r => match place i, partsT place r with
    | some (off, size), some l => some ((off, size, cO x) :: l)
    | _, _ => none

def compOp (P : Program) : Op → Option FOp
  | .move x => some (.mov (cO x))
  | .assign x => some (.mov (cO x))
  | .pick c a b => some (.pick (cO c) (cO a) (cO b))
  | .alloc ty => match P.info? ty with
    | some i => i.zero.map fun z => .alloc ty (z.cells.toList.map baseV)
    | none => none
  | .box ty x => if (P.info? ty).isSome then some (.box ty (cO x)) else none
  | .build t parts => match P.info? t, P.underlying t with
    | some i, some (.struct fields) => match i.zero, fields.toList.mapM (fun f => (P.info? f.type).map fun i => (f.offset, i.size)) with
      | some z, some places => (partsT (fun k => places.toArray[k]?) parts.toList).map fun l => .build (z.cells.toList.map baseV) l
      | _, _ => none
    | some i, some (.array _ e) => match i.zero, P.info? e with
      | some z, some ie => (partsT (fun k => some (k * ie.size, ie.size)) parts.toList).map fun l => .build (z.cells.toList.map baseV) l
      | _, _ => none
    | _, _ => none
  | .buildSlice t len parts => match P.underlying t with
    | some (.slice elem) => match P.info? elem with
      | some i => match i.zero with
        | some z => if 0 < i.size ∧ len * i.size ≤ 2 ^ 24 ∧ z.cells.size = i.size then
            (partsT (fun k => some (k * i.size, i.size)) parts.toList).map fun l =>
              .bslice elem i.size ((((Array.range (len * i.size)).map fun j => (z.cells[j % z.cells.size]!)).toList).map baseV) len l
          else none
        | none => none
      | none => none
    | _ => none
  | .load t x => (optSize P t).map fun n => .load n (cO x)
  | .store t a x => (sizeT P t).map fun n => .store n (cO a) (cO x)
  | .nilCheck x => some (.nilchk (cO x))
  | .binOp op xType x y _ => some (.bin op (clsT P xType) (cO x) (cO y))
  | .unOp op _ x => some (.un op (cO x))
  | .convert src dst x => match P.underlying src, P.underlying dst with
    | some (.int _), some (.int k) => some (.conv k (cO x))
    | some .string, some (.slice e) => match P.underlying e, sizeT P e with
      | some (.int .u8), some 1 => some (.s2b e (src == dst) (cO x))
      | _, _ => none
    | some (.slice _), some (.slice e) => match P.underlying e, sizeT P e with
      | some (.int .u8), some 1 => some (.s2b e (src == dst) (cO x))
      | _, _ => none
    | some (.slice e), some .string => match P.underlying e with
      | some (.int .u8) => some (.b2s (cO x))
      | _ => none
    | _, _ => none
  | .makeFunc (.func f) first caps => if first.isEmpty then some (.mkfn f (caps.toList.map cO)) else if caps.isEmpty then some (.mkmth f (first.toList.map cO)) else none
  | .makeSlice t x y => match P.underlying t with
    | some (.slice elem) => match P.info? elem with
      | some i => match i.zero with
        | some z => if z.cells.size = i.size ∧ 0 < i.size then some (.mkslice elem i.bytes (z.cells.toList.map baseV) (cO x) (cO y)) else none
        | none => none
      | none => none
    | _ => none
  | .slice t x lo hi mx => match P.underlying t with
    | some .string => if mx.isNone then some (.sliceS (cO x) (lo.map cO) (hi.map cO)) else none
    | some (.slice elem) => match sizeT P elem with
      | some s => if 0 < s then some (.slice elem s (cO x) (lo.map cO) (hi.map cO) (mx.map cO)) else none
      | none => none
    | _ => none
  | .fieldAddr s x f => match P.underlying s with
    | some (.struct fields) => match fields[f]? with
      | some fd => match sizeT P fd.type with
        | some n => if n = 0 then none else some (.faddr fd.offset (cO x))
        | none => none
      | none => none
    | _ => none
  | .field t x f => match P.underlying t with
    | some (.struct fields) => match fields[f]? with
      | some fd => (optSize P fd.type).map fun n => .field fd.offset n (cO x)
      | none => none
    | _ => none
  | .indexAddr t x i => match P.underlying t with
    | some (.slice elem) => (sizeT P elem).map fun s => .iaddr s (cO x) (cO i)
    | some (.array len elem) => (sizeT P elem).map fun s => .iaddrA len s (cO x) (cO i)
    | _ => none
  | .index t x i => match P.underlying t with
    | some .string => some (.indexS (cO x) (cO i))
    | _ => none
  | .extract x i => some (.extract (cO x) i)
  | .call c => match c.callee with
    | .value f => some (.call (cO f) (c.args.toList.map cO))
    | .builtin .len => match c.argTypes.toList, c.args.toList with
      | [t], [x] => match P.underlying t with
        | some .string => some (.len true (cO x))
        | some (.slice _) => some (.len false (cO x))
        | _ => none
      | _, _ => none
    | .builtin .append => match c.argTypes.toList, c.args.toList with
      | [t, u], [s, x] => match P.underlying t, P.underlying u with
        | some (.slice elem), some (.slice elem') => match P.info? elem with
          | some i => if 0 < i.size ∧ elem' = elem ∧ 0 < i.bytes ∧ i.zero.any (fun z => z.cells.size = i.size) then some (.append elem i.size i.bytes (cO s) (cO x)) else none
          | none => none
        | some (.slice elem), some .string => match P.info? elem, P.underlying elem with
          | some i, some (.int .u8) => if i.size = 1 ∧ 0 < i.bytes ∧ i.zero.any (fun z => z.cells.size = i.size) then some (.append elem i.size i.bytes (cO s) (cO x)) else none
          | _, _ => none
        | _, _ => none
      | _, _ => none
    | .builtin .clear => match c.argTypes.toList, c.args.toList with
      | [t], [x] => match P.underlying t with
        | some (.slice elem) => match P.info? elem with
          | some i => match i.zero with
            | some z => if 0 < i.size ∧ z.cells.size = i.size ∧ z.cells.toList.all Value.oneCell' = true then some (.clear i.size z.cells (cO x)) else none
            | none => none
          | none => none
        | _ => none
      | _, _ => none
    | _ => none
  | _ => none

end Go.F
