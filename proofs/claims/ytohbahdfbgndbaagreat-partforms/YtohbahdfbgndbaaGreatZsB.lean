/- A sound evaluator for the model's programs, second part: what each operation does to values and objects. -/
import Derived.Test.YtohbahdfbgndbaaGreatZsA
namespace Go.Zs
open Go

/-- Functions of the library that have no body. -/
inductive Ext where
  | add | load | store

/-- What an evaluation is over: the program, its functions without a body, functions that are taken by a summary, types of structs whose values are compared, the functions whose regions are fine (a bit each). -/
structure Env where
  P : Program
  ext : FuncId → Option Ext
  sum : FuncId → Option (List V → Heap → Option (V × Heap))
  eqs : List TypeId
  fine : Nat
  loose : Bool := false

abbrev Tm := T V

def Tm.get (t : Tm) (k : Nat) : V := (T.get t k).getD .undef

def ev (t : Tm) : Operand → V
  | .tmp k => t.get k
  | .const v => ofValue v
  | .global _ => .any
  | .func f => .fn f [] []

section
variable (E : Env)

def aggB (t : TypeId) : Option Bool :=
  match E.P.underlying t with
  | some (.struct _) | some (.array _ _) => some true
  | some _ => some false
  | none => none

def sizeB (t : TypeId) : Option Nat := (E.P.info? t).map (·.size)

def zeroB (t : TypeId) : Option V := ((E.P.info? t).bind (·.zero)).map ofValue

/-- A part of a struct's cells. -/
def dPart (t : TypeId) (cs : List V) (off : Nat) : Option V :=
  (aggB E t).bind fun a => bif a then (sizeB E t).map fun n => .agg ((cs.drop off).take n) else cs[off]?

/-- A variable of a type is read. -/
def dLoad (t : TypeId) (i o : Nat) (h : Heap) : Option V :=
  (h.cells i).bind fun cs => (aggB E t).bind fun a =>
    bif a then (sizeB E t).bind fun n => bif Nat.ble (o + n) cs.length then some (.agg ((cs.drop o).take n)) else none
    else cs[o]?

/-- Cells are written into an object's row of cells, from a place on. -/
def splice (cs : List V) (o : Nat) (vs : List V) : List V := cs.take o ++ vs ++ cs.drop (o + vs.length)

def dStoreCells (i o : Nat) (vs : List V) (h : Heap) : Option Heap :=
  match h.get i with
  | some (.cells cs k) => bif k.wr && Nat.ble (o + vs.length) cs.length && vs.all V.one then some (h.set i (.cells (splice cs o vs) k)) else none
  | _ => none

def dStore (t : TypeId) (i o : Nat) (v : V) (h : Heap) : Option Heap :=
  bif v.plain then (sizeB E t).bind fun n => bif Nat.beq v.cells.length n then dStoreCells i o v.cells h else none
  else none

/-- Parts are laid over a row of cells. -/
def dFill (place : Nat → Option (Nat × Nat)) : List V → List (Nat × V) → Option (List V)
  | cs, [] => some cs
  | cs, (i, v) :: rest =>
    match place i with
    | none => none
    | some (off, size) => bif v.plain && Nat.beq v.cells.length size && Nat.ble (off + v.cells.length) cs.length then dFill place (splice cs off v.cells) rest else none

def dBuild (t : TypeId) (parts : List (Nat × V)) : Option V :=
  (zeroB E t).bind fun z => bif z.plain then
    match E.P.underlying t with
    | some (.struct fields) => (fields.toList.mapM fun f => (sizeB E f.type).map fun n => (f.offset, n)).bind fun places => (dFill (fun i => places[i]?) z.cells parts).map .agg
    | some (.array _ e) => (sizeB E e).bind fun n => (dFill (fun i => some (i * n, n)) z.cells parts).map .agg
    | _ => none
  else none

/-- So many copies of a row of cells. -/
def copies (z : List V) : Nat → List V
  | 0 => []
  | n + 1 => z ++ copies z n

/-- Cells of so many zero elements. -/
def zerosB (t : TypeId) (n : Nat) : Option (List V) :=
  (sizeB E t).bind fun s => bif Nat.beq (n * s) 0 then some [] else (zeroB E t).bind fun z => bif z.plain && Nat.beq z.cells.length s then some (copies z.cells n) else none

def dBuildSlice (t : TypeId) (len : Nat) (parts : List (Nat × V)) (h : Heap) : Option (V × Heap) :=
  match E.P.underlying t with
  | some (.slice e) => (sizeB E e).bind fun s => bif Nat.ble (len * s) 16777216 then
      (zerosB E e len).bind fun z => (dFill (fun i => some (i * s, s)) z parts).map fun cs => (.sl (some (h.next, 0)) len len s true, h.new (.cells cs .own))
      else none
  | _ => none

def dField (t : TypeId) (v : V) (f : Nat) : Option V :=
  match E.P.underlying t, v with
  | some (.struct fields), .agg cs => (fields[f]?).bind fun x => dPart E x.type cs x.offset
  | _, _ => none

def dFieldAddr (t : TypeId) (v : V) (f : Nat) : Option V :=
  match E.P.underlying t, v with
  | some (.struct fields), .ptr (some (i, o)) => (fields[f]?).bind fun x => (sizeB E x.type).bind fun n => bif Nat.beq n 0 then none else some (.ptr (some (i, o + x.offset)))
  | _, _ => none

def intIn (n : Int) (len : Nat) : Option Nat :=
  match n with
  | .ofNat k => bif Nat.blt k len then some k else none
  | .negSucc _ => none

def dIndexAddr (t : TypeId) (x ix : V) : Option V :=
  match E.P.underlying t, x, ix with
  | some (.slice e), .sl (some (i, o)) len _ _ _, .int _ n => (intIn n len).bind fun k => (sizeB E e).map fun s => .ptr (some (i, o + k * s))
  | some (.array len e), .ptr (some (i, o)), .int _ n => (intIn n len).bind fun k => (sizeB E e).map fun s => .ptr (some (i, o + k * s))
  | _, _, _ => none

def dIndex (t : TypeId) (x ix : V) : Option V :=
  match E.P.underlying t, x, ix with
  | some (.string), .str s, .int _ n =>
    match n with
    | .ofNat k => (s[k]?).map fun b => .int .u8 b.toNat
    | .negSucc _ => none
  | some (.array len e), .agg cs, .int _ n => (intIn n len).bind fun k => (sizeB E e).bind fun s => dPart E e cs (k * s)
  | _, _, _ => none

def dExtract (x : V) (i : Nat) : Option V :=
  match x with
  | .tup vs => vs[i]?
  | _ => none

/-- A bound of a slice expression: not given: the other; given: from 0 to a most. -/
def dBound (x : Option V) (other most : Nat) : Option Nat :=
  match x with
  | none => some other
  | some (.int _ (.ofNat k)) => bif Nat.ble k most then some k else none
  | _ => none

def dSlice (t : TypeId) (x : V) (lo hi mx : Option V) (h : Heap) : Option V :=
  match E.P.underlying t, x with
  | some (.string), .str s =>
    match mx with
    | none => (dBound hi s.length s.length).bind fun b => (dBound lo 0 b).map fun a => .str ((s.drop a).take (b - a))
    | some _ => none
  | some (.slice e), .sl none 0 0 es true =>
    (sizeB E e).bind fun _ =>
    match mx with
    | none => (dBound hi 0 0).bind fun _ => (dBound lo 0 0).map fun _ => .sl none 0 0 es true
    | some _ => none
  | some (.slice e), .sl (some (i, o)) len least es ex =>
    (sizeB E e).bind fun s => bif Nat.beq es s then
    match mx with
    | none => (dBound hi len least).bind fun b => (dBound lo 0 b).map fun a => .sl (some (i, o + a * s)) (b - a) (least - a) s ex
    | some m => (dBound (some m) 0 least).bind fun m => match hi with | none => none | some x => (dBound (some x) 0 m).bind fun b => (dBound lo 0 b).map fun a => .sl (some (i, o + a * s)) (b - a) (m - a) s true
    else none
  | some (.array n e), .ptr (some (i, o)) =>
    (sizeB E e).bind fun s => (h.cells i).bind fun cs => bif Nat.ble (o + n * s) cs.length then
    match mx with
    | none => (dBound hi n n).bind fun b => (dBound lo 0 b).map fun a => .sl (some (i, o + a * s)) (b - a) (n - a) s true
    | some _ => none
    else none
  | _, _ => none

def beqBytes : List UInt8 → List UInt8 → Bool
  | [], [] => true
  | a :: x, b :: y => Nat.beq a.toNat b.toNat && beqBytes x y
  | _, _ => false

def live (h : Heap) (i : Nat) : Bool := match h.get i with | some (.cells _ .own) => true | _ => false

/-- '==' of structs, field by field. -/
def dEqF (eq : TypeId → V → V → Option Bool) (xs ys : List V) : List Field → Option Bool
  | [] => some true
  | f :: fs => if f.name = "_" then dEqF eq xs ys fs else (dPart E f.type xs f.offset).bind fun a => (dPart E f.type ys f.offset).bind fun b => (eq f.type a b).bind fun r => bif r then dEqF eq xs ys fs else some false

/-- '==' by a type. -/
def dEqual : Nat → TypeId → V → V → Heap → Option Bool
  | 0, _, _, _, _ => none
  | d + 1, t, x, y, h =>
    match E.P.underlying t, x, y with
    | some .bool, .bool a, .bool b => some (a == b)
    | some (.int _), .int k a, .int k' b => if k = k' then some (decide (a = b)) else none
    | some .string, .str a, .str b => some (beqBytes a b)
    | some (.pointer _), .ptr none, .ptr b => some b.isNone
    | some (.pointer _), .ptr _, .ptr none => some false
    | some (.pointer e), .ptr (some (i, o)), .ptr (some (j, u)) =>
      (sizeB E e).bind fun s => bif Nat.beq s 0 then none else bif Nat.beq i j then some (Nat.beq o u) else bif live h i && live h j then some false else none
    | some (.slice _), .sl none _ _ _ _, .sl b _ _ _ _ => some b.isNone
    | some (.slice _), .sl _ _ _ _ _, .sl none _ _ _ _ => some false
    | some (.map _ _), .map none, .map b => some b.isNone
    | some (.map _ _), .map _, .map none => some false
    | some (.func _ _ _), .nilFn, .nilFn => some true
    | some (.func _ _ _), .nilFn, .fn _ _ _ => some false
    | some (.func _ _ _), .fn _ _ _, .nilFn => some false
    | some (.struct fields), .agg xs, .agg ys =>
      bif E.eqs.contains t then dEqF E (fun t a b => dEqual d t a b h) xs ys fields.toList
      else none
    | _, _, _ => none

/-- The words of an int kind. -/
def dBits (k : IntKind) (op : BinOp) (x y : Int) : Option V :=
  let a := BitVec.ofInt k.bits x
  let b := BitVec.ofInt k.bits y
  match op with
  | .and => some (.int k (k.wrap (a &&& b).toNat))
  | .or => some (.int k (k.wrap (a ||| b).toNat))
  | .xor => some (.int k (k.wrap (a ^^^ b).toNat))
  | .andNot => some (.int k (k.wrap (a &&& ~~~b).toNat))
  | _ => none

def dInt (op : BinOp) (k : IntKind) (a b : Int) : Option V :=
  match op with
  | .add => some (.int k (k.wrap (a + b)))
  | .sub => some (.int k (k.wrap (a - b)))
  | .mul => some (.int k (k.wrap (a * b)))
  | .quo => if b = 0 then none else some (.int k (k.wrap (a.tdiv b)))
  | .rem => if b = 0 then none else some (.int k (a.tmod b))
  | .and | .or | .xor | .andNot => dBits k op a b
  | .eql => some (.bool (a == b))
  | .neq => some (.bool (a != b))
  | .lss => some (.bool (decide (a < b)))
  | .leq => some (.bool (decide (a ≤ b)))
  | .gtr => some (.bool (decide (a > b)))
  | .geq => some (.bool (decide (a ≥ b)))
  | _ => none

def dStr (op : BinOp) (a b : List UInt8) : Option V :=
  match op with
  | .add => bif Nat.ble (a.length + b.length) 1073741824 then some (.str (a ++ b)) else none
  | .eql => some (.bool (beqBytes a b))
  | .neq => some (.bool (!beqBytes a b))
  | .lss => some (.bool (Op.bytesLess a b))
  | .leq => some (.bool (Op.bytesLess a b || beqBytes a b))
  | .gtr => some (.bool (!(Op.bytesLess a b || beqBytes a b)))
  | .geq => some (.bool (!(Op.bytesLess a b)))
  | _ => none

def isAggV : V → Bool
  | .agg _ => true
  | _ => false

def dBin (op : BinOp) (t : TypeId) (x y : V) (h : Heap) : Option V :=
  match op, x, y with
  | .shl, .int k a, .int _ b => if b < 0 then none else some (.int k (k.wrap (a * 2 ^ (min b.toNat k.bits))))
  | .shr, .int k a, .int _ b => if b < 0 then none else some (.int k (a.fdiv (2 ^ (min b.toNat k.bits))))
  | op, .int k a, .int k' b => if k = k' then dInt op k a b else none
  | op, .str a, .str b => dStr op a b
  | .eql, x, y => (dEqual E 100 t x y h).map .bool
  | .neq, x, y => (dEqual E 100 t x y h).map fun b => .bool (!b)
  | _, _, _ => none

def dUn (op : UnOp) (x : V) : Option V :=
  match op, x with
  | .neg, .int k n => some (.int k (k.wrap (0 - n)))
  | .xor, .int k n => dBits k .xor (if k.signed then -1 else k.max) n
  | .not, .bool b => some (.bool (!b))
  | _, _ => none

def byteOfV : V → Option UInt8
  | .int .u8 n => some (UInt8.ofNat n.toNat)
  | _ => none

def bytesOfVs : List V → Option (List UInt8)
  | [] => some []
  | v :: vs => (byteOfV v).bind fun b => (bytesOfVs vs).map fun r => b :: r

def dConvert (src dst : TypeId) (x : V) (h : Heap) : Option (V × Heap) :=
  match E.P.underlying src, E.P.underlying dst, x with
  | some _, some (.int k), .int _ n => some (.int k (k.wrap n), h)
  | some _, some .string, .str s => some (.str s, h)
  | some _, some (.slice e), .str s =>
    match E.P.underlying e with
    | some (.int .u8) => bif Nat.ble s.length 1073741824 then some (.sl (some (h.next, 0)) s.length s.length 1 false, h.new (.cells (s.map fun b => .int .u8 b.toNat) .mark)) else none
    | _ => none
  | some (.slice e), some .string, .sl none _ _ _ _ =>
    match E.P.underlying e with
    | some (.int .u8) => some (.str [], h)
    | _ => none
  | some (.slice e), some .string, .sl (some (i, o)) len _ _ _ =>
    match E.P.underlying e with
    | some (.int .u8) => (h.cells i).bind fun cs => bif Nat.beq len 0 then some (.str [], h) else bif Nat.ble (o + len) cs.length then (bytesOfVs ((cs.drop o).take len)).map fun s => (.str s, h) else none
    | _ => none
  | _, _, _ => none

def dMakeSlice (t : TypeId) (len cap : V) (h : Heap) : Option (V × Heap) :=
  match E.P.underlying t, len, cap with
  | some (.slice e), .int _ (.ofNat l), .int _ (.ofNat c) =>
    (E.P.info? e).bind fun i => bif Nat.ble l c && Nat.ble (i.bytes * c) 281474976710656 && Nat.ble c 1073741824 then
      (zerosB E e c).map fun z => (.sl (some (h.next, 0)) l c i.size true, h.new (.cells z .own)) else none
  | _, _, _ => none

/-- Where a key stands among entries. -/
def dFind (d : TypeId) (k : V) (h : Heap) : List (V × V) → Nat → Option (Option (Nat × V))
  | [], _ => some none
  | (a, b) :: es, i => (dEqual E 100 d k a h).bind fun s => bif s then some (some (i, b)) else dFind d k h es (i + 1)

/-- May a value be a key (no interface in it)? -/
def dKey : Nat → TypeId → V → Bool
  | 0, _, _ => false
  | d + 1, t, v =>
    match E.P.underlying t with
    | some (.int _) | some .string | some .bool => true
    | some (.struct fields) => match v with
      | .agg cs => fields.toList.all fun f => if f.name = "_" then true else match dPart E f.type cs f.offset with | some x => dKey d f.type x | none => false
      | _ => false
    | _ => false

def beqCell : V → V → Bool
  | .bool a, .bool b => a == b
  | .int j a, .int k b => j == k && a == b
  | .str a, .str b => beqBytes a b
  | _, _ => false

def beqCells : List V → List V → Bool
  | [], [] => true
  | a :: x, b :: y => beqCell a b && beqCells x y
  | _, _ => false

def beqV : V → V → Bool
  | .agg a, .agg b => beqCells a b
  | a, b => beqCell a b

def dMapOf (x : V) (h : Heap) : Option (List (V × V)) :=
  match x with
  | .map none => some []
  | .map (some i) => match h.get i with | some (.map es _ _) => some es | _ => none
  | _ => none

def dLookup (t : TypeId) (x ix : V) (ok : Bool) (h : Heap) : Option V :=
  match E.P.underlying t with
  | some (.map k e) => bif dKey E 100 k ix then (dMapOf x h).bind fun es => (dFind E k ix h es 0).bind fun r =>
      match r with
      | some (_, v) => some (bif ok then .tup [v, .bool true] else v)
      | none => (zeroB E e).map fun v => bif ok then .tup [v, .bool false] else v
    else none
  | _ => none

def setVal : List (V × V) → Nat → V → V → List (V × V)
  | [], _, _, _ => []
  | _ :: es, 0, k, v => (k, v) :: es
  | e :: es, i + 1, k, v => e :: setVal es i k v

def dMapUpdate (t : TypeId) (x ix v : V) (h : Heap) : Option Heap :=
  match E.P.underlying t, x with
  | some (.map k _), .map (some i) => bif dKey E 100 k ix then
      match h.get i with
      | some (.map es bs cl) => (dFind E k ix h es 0).bind fun r =>
        match r with
        | some (j, _) => match es[j]? with
          | some (old, _) => bif beqV old ix then some (h.set i (.map (setVal es j ix v) bs cl)) else none
          | none => none
        | none => some (h.set i (.map (es ++ [(ix, v)]) (bs ++ [cl]) (cl + 1)))
      | _ => none
    else none
  | _, _ => none

def dLen (t : TypeId) (x : V) (h : Heap) : Option V :=
  match E.P.underlying t, x with
  | some .string, .str s => some (.int .i64 s.length)
  | some (.array n _), _ => some (.int .i64 n)
  | some (.slice _), .sl _ n _ _ _ => some (.int .i64 n)
  | some (.map _ _), .map none => some (.int .i64 0)
  | some (.map _ _), .map (some i) => match h.get i with | some (.map es _ _) => some (.int .i64 es.length) | _ => none
  | _, _ => none

/-- The first cells of what is appended or copied. -/
def dFirst (size n : Nat) (x : V) (h : Heap) : Option (List V) :=
  match x with
  | .sl none _ _ _ _ => some []
  | .sl (some (i, o)) len _ _ _ => bif Nat.beq (n * size) 0 then some [] else (h.cells i).bind fun cs => bif Nat.ble n len && Nat.ble (o + n * size) cs.length then some ((cs.drop o).take (n * size)) else none
  | .str s => bif Nat.ble n s.length then some ((s.take n).map fun b => .int .u8 b.toNat) else none
  | _ => none

def dLenOf : V → Option Nat
  | .sl _ n _ _ _ => some n
  | .str s => some s.length
  | _ => none

def countV : V → Option Nat
  | .int _ (.ofNat k) => some k
  | _ => none

/-- Is the second argument of 'append' a count of zeros? -/
def isIntD : TypeDesc → Option Bool
  | .int _ => some true
  | .slice _ | .string => some false
  | _ => none

/-- 'append': nothing: the slice itself; where there is room for sure: written there; where there is none for sure: a new object; else the old object is no more. -/
def dAppend (ts : Array TypeId) (s x : V) (h : Heap) : Option (V × Heap) :=
  match (ts[0]?).bind E.P.underlying, (ts[1]?).bind E.P.underlying, s with
  | some (.slice e), some d, .sl a len lo es ex =>
    (E.P.info? e).bind fun info => (zeroB E e).bind fun z =>
    let size := info.size
    (isIntD d).bind fun zeros =>
    (bif zeros then countV x else dLenOf x).bind fun n =>
    (bif zeros then zerosB E e n else dFirst size n x h).bind fun new =>
    bif Nat.beq size 0 || !Nat.ble (len + n) 1073741824 || !Nat.ble info.bytes 65536 || !z.plain || !Nat.beq z.cells.length size || !Nat.beq new.length (n * size) then none else
    bif Nat.beq n 0 then some (.sl a len lo es ex, h) else
    match a with
    | none => bif Nat.beq lo 0 then some (.sl (some (h.next, 0)) n n size false, h.new (.cells new .own)) else none
    | some (i, o) =>
      bif !Nat.beq es size then none else
      bif Nat.ble (len + n) lo then (dStoreCells i (o + len * size) new h).map fun h => (.sl (some (i, o)) (len + n) lo es ex, h)
      else (dFirst size len s h).bind fun old =>
        bif ex then some (.sl (some (h.next, 0)) (len + n) (len + n) size false, h.new (.cells (old ++ new) .own))
        else match h.get i with
          | some (.cells _ k) => bif k.wr && new.all V.one then some (.sl (some (h.next, 0)) (len + n) (len + n) size false, (h.kill i).new (.cells (old ++ new) k)) else none
          | _ => none
  | _, _, _ => none

def dCopy (ts : Array TypeId) (d s : V) (h : Heap) : Option (V × Heap) :=
  match (ts[0]?).bind E.P.underlying, d with
  | some (.slice e), .sl a len _ _ _ =>
    (sizeB E e).bind fun size => (dLenOf s).bind fun m =>
    let n := min m len
    (dFirst size n s h).bind fun cs =>
    match a with
    | none => some (.int .i64 n, h)
    | some (i, o) => bif Nat.beq cs.length 0 then some (.int .i64 n, h) else (dStoreCells i o cs h).map fun h => (.int .i64 n, h)
  | _, _ => none

def dClear (ts : Array TypeId) (x : V) (h : Heap) : Option (V × Heap) :=
  match (ts[0]?).bind E.P.underlying, x with
  | some _, .map none => some (.tup [], h)
  | some _, .sl none _ _ _ _ => some (.tup [], h)
  | some _, .map (some i) => match h.get i with | some (.map _ _ cl) => some (.tup [], h.set i (.map [] [] cl)) | _ => none
  | some (.slice e), .sl (some (i, o)) n _ _ _ =>
    bif Nat.beq n 0 then some (.tup [], h) else (zerosB E e n).bind fun z => bif Nat.beq z.length 0 then none else (dStoreCells i o z h).map fun h => (.tup [], h)
  | _, _ => none

def dropAt : List (V × V) → Nat → List (V × V)
  | [], _ => []
  | _ :: es, 0 => es
  | e :: es, i + 1 => e :: dropAt es i

def dDelete (ts : Array TypeId) (x k : V) (h : Heap) : Option (V × Heap) :=
  match (ts[0]?).bind E.P.underlying, x with
  | some (.map kt _), .map none => bif dKey E 100 kt k then some (.tup [], h) else none
  | some (.map kt _), .map (some i) => bif dKey E 100 kt k then
      match h.get i with
      | some (.map es bs cl) => (dFind E kt k h es 0).map fun r =>
        match r with
        | some (j, _) => (.tup [], h.set i (.map (dropAt es j) (bs.eraseIdx j) cl))
        | none => (.tup [], h)
      | _ => none
    else none
  | _, _ => none

def dMinMax (mx : Bool) : List V → Option V
  | [] => none
  | x :: rest => rest.foldlM (fun a b => match a, b with
    | .int k x, .int _ y => some (.int k (bif mx then (if y > x then y else x) else (if y < x then y else x)))
    | _, _ => none) x

def dBuiltin (b : Builtin) (ts : Array TypeId) (args : List V) (h : Heap) : Option (V × Heap) :=
  match b, args with
  | .len, [x] => (ts[0]?).bind fun t => (dLen E t x h).map fun v => (v, h)
  | .append, [s, x] => dAppend E ts s x h
  | .copy, [d, s] => dCopy E ts d s h
  | .clear, [x] => dClear E ts x h
  | .delete, [m, k] => dDelete E ts m k h
  | .min, xs => (dMinMax false xs).map fun v => (v, h)
  | .max, xs => (dMinMax true xs).map fun v => (v, h)
  | _, _ => none

def dExt (e : Ext) (args : List V) (h : Heap) : Option (V × Heap) :=
  match e, args with
  | .load, [.ptr (some (i, o))] => (h.cells i).bind fun cs => match cs[o]? with | some (.int .i64 n) => some (.int .i64 n, h) | _ => none
  | .add, [.ptr (some (i, o)), .int .i64 d] => (h.cells i).bind fun cs => match cs[o]? with
      | some (.int .i64 n) => (dStoreCells i o [.int .i64 (IntKind.i64.wrap (n + d))] h).map fun h => (.int .i64 (IntKind.i64.wrap (n + d)), h)
      | _ => none
  | .store, [.ptr (some (i, o)), .int .i64 n] => (dStoreCells i o [.int .i64 n] h).map fun h => (.tup [], h)
  | _, _ => none

/-- Calls of functions (false), of a loop's yield (true). -/
abbrev CallF := Bool → Nat → List V → Heap → Option (V × Heap)

def dCall (call : CallF) (t : Tm) (c : Call) (h : Heap) : Option (V × Heap) :=
  match c.callee with
  | .builtin b => dBuiltin E b c.argTypes (c.args.toList.map (ev t)) h
  | .value f =>
    match ev t f with
    | .fn f first captured =>
      match E.ext f with
      | some e => dExt e (first ++ c.args.toList.map (ev t) ++ captured) h
      | none => call false f (first ++ c.args.toList.map (ev t) ++ captured) h
    | .yld i => call true i (c.args.toList.map (ev t)) h
    | _ => none
  | .invoke _ _ => none

/-- 'range' over a map: an iterator. -/
def dRange (t : TypeId) (x : V) (h : Heap) : Option (V × Heap) :=
  match E.P.underlying t, x with
  | some (.map _ _), .map none => some (.ptr (some (h.next, 0)), h.new (.iter none 0 [] 0))
  | some (.map _ _), .map (some i) => match h.get i with | some (.map _ _ cl) => some (.ptr (some (h.next, 0)), h.new (.iter (some i) cl [] cl)) | _ => none
  | _, _ => none

/-- The entry of a stamp. -/
def byStamp (b : Nat) : List (V × V) → List Nat → Option (V × V)
  | e :: es, c :: bs => bif Nat.beq c b then some e else byStamp b es bs
  | _, _ => none

/-- The round's entry. -/
def dEntry (x : V) (h : Heap) : Option V :=
  match x with
  | .ptr (some (j, 0)) => match h.get j with
    | some (.iter (some m) _ seen last) => match h.get m with
      | some (.map es bs cl) => bif Nat.beq cl last then seen.getLast?.bind fun b => (byStamp b es bs).map fun e => .tup [e.1, e.2] else none
      | _ => none
    | _ => none
  | _ => none

/-- The entries that an iterator has not handed out. -/
def leftB (seen : List Nat) : List (V × V) → List Nat → List (V × V × Nat)
  | e :: es, c :: bs => bif seen.any (Nat.beq c) then leftB seen es bs else (e.1, e.2, c) :: leftB seen es bs
  | _, _ => []

/-- What the next step of an iterator may be. -/
def dNexts (x : V) (h : Heap) : Option (List (V × Heap)) :=
  match x with
  | .ptr (some (j, 0)) => match h.get j with
    | some (.iter none _ _ _) => some [(.tup [.bool false], h)]
    | some (.iter (some m) since seen last) => match h.get m with
      | some (.map es bs cl) => bif bs.all (fun b => Nat.blt b since) && Nat.ble since last then
          match leftB seen es bs with
          | [] => some [(.tup [.bool false], h)]
          | l => some (l.map fun e => (.tup [.bool true, e.1, e.2.1], h.set j (.iter (some m) since (seen ++ [e.2.2]) cl)))
        else none
      | _ => none
    | _ => none
  | _ => none

def asSkip (h : Option Heap) : Option (V × Heap) := h.map fun h => (.undef, h)
def keep (h : Heap) (v : Option V) : Option (V × Heap) := v.map fun v => (v, h)

/-- One operation: its value, the memory behind it. -/
def dOp (call : CallF) (o : Op) (t : Tm) (h : Heap) : Option (V × Heap) :=
  match o with
  | .move x | .assign x => some (ev t x, h)
  | .pick c a b => match ev t c with | .bool true => some (ev t a, h) | .bool false => some (ev t b, h) | _ => none
  | .alloc e => (zeroB E e).bind fun z => bif z.plain then some (.ptr (some (h.next, 0)), h.new (.cells z.cells .own)) else none
  | .box _ x => bif (ev t x).plain then some (.ptr (some (h.next, 0)), h.new (.cells (ev t x).cells .own)) else none
  | .build ty parts => keep h (dBuild E ty (parts.toList.map fun p => (p.1, ev t p.2)))
  | .buildSlice ty len parts => dBuildSlice E ty len (parts.toList.map fun p => (p.1, ev t p.2)) h
  | .load ty a => match ev t a with | .ptr (some (i, o)) => keep h (dLoad E ty i o h) | _ => none
  | .store ty a x => match ev t a with | .ptr (some (i, o)) => asSkip (dStore E ty i o (ev t x) h) | _ => none
  | .nilCheck x => match ev t x with | .ptr (some a) => some (.ptr (some a), h) | .fn f a b => some (.fn f a b, h) | _ => none
  | .binOp op xt x y _ => bif isAggV (ev t x) && !E.eqs.contains xt then none else keep h (dBin E op xt (ev t x) (ev t y) h)
  | .unOp op _ x => keep h (dUn op (ev t x))
  | .convert s d x => dConvert E s d (ev t x) h
  | .makeFunc (.func f) first captured => some (.fn f (first.toList.map (ev t)) (captured.toList.map (ev t)), h)
  | .makeMap _ none => some (.map (some h.next), h.new (.map [] [] 0))
  | .makeSlice ty l c => dMakeSlice E ty (ev t l) (ev t c) h
  | .slice ty x lo hi mx => keep h (dSlice E ty (ev t x) (lo.map (ev t)) (hi.map (ev t)) (mx.map (ev t)) h)
  | .fieldAddr s x f => keep h (dFieldAddr E s (ev t x) f)
  | .field s x f => keep h (dField E s (ev t x) f)
  | .indexAddr ty x ix => keep h (dIndexAddr E ty (ev t x) (ev t ix))
  | .index ty x ix => keep h (dIndex E ty (ev t x) (ev t ix))
  | .lookup ty x ix ok => keep h (dLookup E ty (ev t x) (ev t ix) ok h)
  | .mapUpdate ty m k x | .insert ty m k x => asSkip (dMapUpdate E ty (ev t m) (ev t k) (ev t x) h)
  | .extract x i => keep h (dExtract (ev t x) i)
  | .range ty x => dRange E ty (ev t x) h
  | .entry x => keep h (dEntry (ev t x) h)
  | .call c => dCall E call t c h
  | _ => none

end
end Go.Zs
