/- Part Room1 of the proof of GensPins. -/
import GoSem.Core.Code
import GoSem.Core.Type
import GoSem.Dispatch
import Derived.Orders
import Derived.Control
import Derived.Calls
import Derived.Laws.World
import Derived.Laws.Cells
import Derived.Laws.Tables
import Derived.Laws.StructEq
import Derived.Laws.Pointers
import Derived.Laws.Concat
set_option linter.unusedVariables false
set_option linter.unusedSimpArgs false
namespace Go.Adm
open Go
/-- What tables of the library hold (a variable's number, its cells): the seat's own. -/
def globs : List (Nat × Array Value) := [(5, #[.int .u64 1, .int .u64 10, .int .u64 100, .int .u64 1000, .int .u64 10000, .int .u64 100000, .int .u64 1000000, .int .u64 10000000, .int .u64 100000000, .int .u64 1000000000, .int .u64 10000000000, .int .u64 100000000000, .int .u64 1000000000000, .int .u64 10000000000000, .int .u64 100000000000000, .int .u64 1000000000000000, .int .u64 10000000000000000, .int .u64 100000000000000000, .int .u64 1000000000000000000, .int .u64 10000000000000000000])]
end Go.Adm
set_option linter.unusedVariables false
namespace Go.Adm
open Go

/-- What is known of a slice by value: nothing; that it is no nil slice, of the call's own making, with no spare room; that it is nil. -/
inductive SK where
  | any | full | nil

/-- Abstract values. -/
inductive AV where
  | un
  | any
  | b (x : Bool)
  | i (k : IntKind) (n : Int)
  | s (x : List UInt8)
  | nilp | nilm | nilf | nili | ie
  | gp (g : Nat)
  | ga (g off : Nat)
  | agg (cs : List AV)
  | tup (vs : List AV)
  | ptr (o off : Nat)
  | bp (o ver off : Nat)
  | bsl (o ez ver off len : Nat)
  | asl (o off len : Nat)
  | sl (cs : List AV) (len : Nat) (k : SK)
  | ep (cs : List AV)
  | mp (o : Nat)
  | fn (f : FuncId) (cap : List AV)

/-- The elements of a row: how many cells, which type. -/
structure ES where
  n : Nat
  t : TypeId
  /-- of a string's bytes, by a conversion -/
  m : Bool
  deriving DecidableEq

inductive AObj where
  | box (t : TypeId) (cs : List AV)
  | buf (e : ES) (cs : List AV) (ver fz : Nat)
  | map (es : List (AV × AV × Nat)) (clock : Nat)

inductive TyD where
  | int (k : IntKind) | bool | str | ptr (e : TypeId) | uptr | slice (elem : TypeId) | arr (len : Nat) (elem : TypeId) | map (k e : TypeId)
  | struct (fs : List (Nat × TypeId)) (cmp : Option (List TyD)) | func | iface | other | bad

structure TyI where
  d : TyD
  size : Nat
  bytes : Nat
  zero : AV

structure FnD where
  body : Code
  ntmps : Nat
  results : List ResultVar

structure Prg where
  ty : TypeId → TyI
  fn : FuncId → Option FnD
  keepArg : FuncId → Bool
  keepRet : FuncId → Bool
  /-- functions without a body, which the model has: what they answer. -/
  ext : FuncId → Option (List AV → Option AV)
  /-- functions behind which what nothing leads to is forgotten. -/
  gcOn : FuncId → Bool

def AV.cells : AV → List AV
  | .agg cs => cs
  | x => [x]

/-- One cell's value: may it be stored? -/
def AV.cell : AV → Bool
  | .un | .any | .agg _ | .tup _ => false
  | _ => true

def ofVal : Value → AV
  | .bool x => .b x
  | .int k n => .i k n
  | .string x => .s x.data.toList
  | .pointer none => .nilp
  | .map none => .nilm
  | .nilFunc => .nilf
  | .nilIface => .nili
  | .slice none 0 0 => .sl [] 0 .nil
  | _ => .any

def eval (env : List AV) : Operand → AV
  | .tmp t => env.getD t .un
  | .const v => ofVal v
  | .global g => .gp g
  | .func f => .fn f []

section
variable (G : Prg)
def Prg.isAgg (t : TypeId) : Bool := match (G.ty t).d with | .struct .. | .arr .. => true | _ => false
def Prg.size (t : TypeId) : Nat := (G.ty t).size
end

/-- A table's cells. -/
def globA (g : Nat) : Option (List AV) := (globs.find? fun p => p.1 == g).map fun p => p.2.toList.map ofVal

def readCells (M : List AObj) (a : AV) (n : Nat) : Option (List AV) :=
  match a with
  | .ptr o off => match M[o]? with
    | some (.box _ cs) => if off + n ≤ cs.length then some ((cs.drop off).take n) else none
    | _ => none
  | .bp o ver off => match M[o]? with
    | some (.buf _ cs v _) => if v = ver ∧ off + n ≤ cs.length then some ((cs.drop off).take n) else none
    | _ => none
  | .ep cs => if n ≤ cs.length then some (cs.take n) else none
  | .ga g off => match globA g with
    | some cs => if off + n ≤ cs.length then some ((cs.drop off).take n) else none
    | none => none
  | _ => none

def mkVar (agg : Bool) (cs : List AV) : Option AV :=
  if agg then some (.agg cs) else match cs with | [x] => some x | _ => none

def writeAt {α : Type} : List α → Nat → List α → List α
  | [], _, _ => []
  | c :: cs, 0, [] => c :: cs
  | _ :: cs, 0, v :: vs => v :: writeAt cs 0 vs
  | c :: cs, n + 1, vs => c :: writeAt cs n vs

theorem writeAt_nil {α : Type} : ∀ (cs : List α) (off : Nat), writeAt cs off [] = cs
  | [], _ => by simp [writeAt]
  | c :: cs, 0 => by simp [writeAt]
  | c :: cs, n + 1 => by simp [writeAt, writeAt_nil cs n]

theorem writeAt_cons {α : Type} (v : α) (vs : List α) : ∀ (cs : List α) (off : Nat), writeAt cs off (v :: vs) = writeAt (cs.set off v) (off + 1) vs
  | [], _ => by simp [writeAt]
  | c :: cs, 0 => by simp [writeAt]
  | c :: cs, n + 1 => by simp [writeAt, writeAt_cons v vs cs n]

def writeCells (M : List AObj) (a : AV) (vs : List AV) : Option (List AObj × Nat) :=
  match a with
  | .ptr o off => match M[o]? with
    | some (.box t cs) => if off + vs.length ≤ cs.length then some (M.set o (.box t (writeAt cs off vs)), o) else none
    | _ => none
  | .bp o ver off => match M[o]? with
    | some (.buf e cs v f) => if v = ver ∧ f ≤ off ∧ off + vs.length ≤ cs.length then some (M.set o (.buf e (writeAt cs off vs) v f), o) else none
    | _ => none
  | _ => none

/-- A slice's cells and length. -/
def sliceCells (M : List AObj) (sz : Nat) : AV → Option (List AV × Nat)
  | .sl cs len _ => some (cs, len)
  | .bsl o ez ver off len => match M[o]? with
    | some (.buf e cs v _) => if v = ver ∧ sz = ez ∧ off + len * sz ≤ cs.length then some ((cs.drop off).take (len * sz), len) else none
    | _ => none
  | .asl o off len => match M[o]? with
    | some (.box _ cs) => if off + len * sz ≤ cs.length then some ((cs.drop off).take (len * sz), len) else none
    | _ => none
  | _ => none

def sliceLen : AV → Option Nat
  | .sl _ len _ => some len
  | .bsl _ _ _ _ len => some len
  | .asl _ _ len => some len
  | _ => none

def bytesOf (x : List UInt8) : List AV := x.map fun c => .i .u8 c.toNat

def toBytes : List AV → Option (List UInt8)
  | [] => some []
  | .i .u8 n :: r => match toBytes r with | some l => some (UInt8.ofNat n.toNat :: l) | none => none
  | _ => none

def kindEq : TyD → AV → AV → Option Bool
  | .bool, .b x, .b y => some (x == y)
  | .int _, .i k x, .i k' y => if k = k' then some (x == y) else none
  | .str, .s x, .s y => some (x == y)
  | _, _, _ => none

def aggEq : List TyD → List AV → List AV → Option Bool
  | [], [], [] => some true
  | k :: ks, x :: xs, y :: ys => match kindEq k x y with
    | some true => aggEq ks xs ys
    | some false => some false
    | none => none
  | _, _, _ => none

def equal (d : TyD) (lit : Bool) (x y : AV) : Option Bool :=
  match d, x, y with
  | .bool, .b x, .b y => some (x == y)
  | .ptr _, .nilp, .nilp => some true
  | .ptr _, .nilp, .ptr .. => some false
  | .ptr _, .ptr .., .nilp => some false
  | .ptr _, .nilp, .ep _ => some false
  | .ptr _, .ep _, .nilp => some false
  | .map .., .nilm, .nilm => some true
  | .map .., .nilm, .mp _ => some false
  | .map .., .mp _, .nilm => some false
  | .iface, .nili, .nili => if lit then some true else none
  | .iface, .nili, .ie => some false
  | .iface, .ie, .nili => some false
  | .slice _, .sl cs n k, .sl [] 0 .nil => match cs, k with
    | _ :: _, _ => some false
    | [], .nil => some true
    | [], .full => some false
    | [], .any => none
  | .slice _, .bsl .., .sl [] 0 .nil => some false
  | .slice _, .asl .., .sl [] 0 .nil => some false
  | .struct _ (some ks), .agg xs, .agg ys => aggEq ks xs ys
  | .ptr _, .ptr o f, .ptr o' f' => if o = o' ∧ f = f' then some true else none
  | _, _, _ => none

def intBin (op : BinOp) (k : IntKind) (x y : Int) : Option AV :=
  match op with
  | .add => some (.i k (k.wrap (x + y)))
  | .sub => some (.i k (k.wrap (x - y)))
  | .mul => some (.i k (k.wrap (x * y)))
  | .quo => if y = 0 then none else some (.i k (k.wrap (x.tdiv y)))
  | .rem => if y = 0 then none else some (.i k (x.tmod y))
  | .and => some (.i k (k.wrap (BitVec.ofInt k.bits x &&& BitVec.ofInt k.bits y).toNat))
  | .or => some (.i k (k.wrap (BitVec.ofInt k.bits x ||| BitVec.ofInt k.bits y).toNat))
  | .xor => some (.i k (k.wrap (BitVec.ofInt k.bits x ^^^ BitVec.ofInt k.bits y).toNat))
  | .eql => some (.b (x == y))
  | .neq => some (.b (x != y))
  | .lss => some (.b (decide (x < y)))
  | .leq => some (.b (decide (x ≤ y)))
  | .gtr => some (.b (decide (x > y)))
  | .geq => some (.b (decide (x ≥ y)))
  | _ => none

def strBin (op : BinOp) (x y : List UInt8) : Option AV :=
  match op with
  | .add => if x.length + y.length ≤ 1000000000000 then some (.s (x ++ y)) else none
  | .eql => some (.b (x == y))
  | .neq => some (.b (!(x == y)))
  | .lss => some (.b (Op.bytesLess x y))
  | .leq => some (.b (Op.bytesLess x y || x == y))
  | .gtr => some (.b (!(Op.bytesLess x y || x == y)))
  | .geq => some (.b (!(Op.bytesLess x y)))
  | _ => none

def binop (d : TyD) (lit : Bool) (op : BinOp) (x y : AV) : Option AV :=
  match x, y with
  | .i k a, .i k' c => match op with
    | .shl => if c < 0 then none else some (.i k (k.wrap (a * 2 ^ (min c.toNat k.bits))))
    | .shr => if c < 0 then none else some (.i k (a.fdiv (2 ^ (min c.toNat k.bits))))
    | _ => if k = k' then intBin op k a c else none
  | .s a, .s c => strBin op a c
  | x, y => match op with
    | .eql => (equal d lit x y).map .b
    | .neq => (equal d lit x y).map fun r => .b (!r)
    | _ => none

def unop (op : UnOp) (x : AV) : Option AV :=
  match op, x with
  | .neg, .i k n => some (.i k (k.wrap (0 - n)))
  | .not, .b x => some (.b !x)
  | _, _ => none

def convertOp (src dst : TyD) (srcElem : TyD) (M : List AObj) (x : AV) : Option AV :=
  match src, dst, x with
  | .bad, _, _ => none
  | _, .int k, .i _ n => some (.i k (k.wrap n))
  | _, .str, .s x => some (.s x)
  | .slice _, .str, x => match srcElem with
    | .int .u8 => match sliceCells M 1 x with
      | some (cs, n) => if cs.length = n then (toBytes cs).map .s else none
      | none => none
    | _ => none
  | _, _, _ => none

def natOf : AV → Option Nat
  | .i _ n => if 0 ≤ n then some n.toNat else none
  | _ => none

def optNat (d : Nat) : Option AV → Option Nat
  | none => some d
  | some x => natOf x

def fillAt (sz : Nat → Option (Nat × Nat)) : List (Nat × AV) → List AV → Option (List AV)
  | [], cs => some cs
  | (i, v) :: r, cs => match sz i with
    | some p => if v.cells.length = p.2 ∧ p.1 + p.2 ≤ cs.length ∧ v.cells.all AV.cell = true then fillAt sz r (writeAt cs p.1 v.cells) else none
    | none => none

def repl (n : Nat) (z : List AV) : List AV := match n with | 0 => [] | n + 1 => z ++ repl n z

def findEntry (kd : TyD) (k : AV) : List (AV × AV × Nat) → Nat → Option (Option (Nat × AV × Nat))
  | [], _ => some none
  | (k', v, born) :: r, i => match kindEq kd k k' with
    | some true => some (some (i, v, born))
    | some false => findEntry kd k r (i + 1)
    | none => none

def isKey : AV → Bool
  | .i .. | .s _ | .b _ => true
  | _ => false

def max2 (x y : AV) : Option AV := match x, y with | .i k x, .i _ y => some (.i k (if y > x then y else x)) | _, _ => none
def min2 (x y : AV) : Option AV := match x, y with | .i k x, .i _ y => some (.i k (if y < x then y else x)) | _, _ => none
def foldO (f : AV → AV → Option AV) : AV → List AV → Option AV
  | a, [] => some a
  | a, x :: r => match f a x with | some a => foldO f a r | none => none

def litOf : Operand → Operand → Bool
  | .const _, _ => true
  | _, .const _ => true
  | _, _ => false

/-- A look-up. -/
def lookupOp (G : Prg) (M : List AObj) (t : TypeId) (x k : AV) (ok : Bool) : Option AV :=
  match (G.ty t).d with
    | .map kt e =>
      if isKey k = true ∧ (G.ty e).zero.cells.all AV.cell = true then
        match x with
        | .nilm => some (if ok then .tup [(G.ty e).zero, .b false] else (G.ty e).zero)
        | .mp o => match M[o]? with
          | some (.map es _) => match findEntry (G.ty kt).d k es 0 with
            | some (some (_, v, _)) => some (if ok then .tup [v, .b true] else v)
            | some none => some (if ok then .tup [(G.ty e).zero, .b false] else (G.ty e).zero)
            | none => none
          | _ => none
        | _ => none
      else none
    | _ => none

/-- The pure cutting of slices. -/
def sliceOp (G : Prg) (t : TypeId) (x : AV) (lo hi mx : Option AV) : Option AV :=
    match (G.ty t).d, x with
    | .str, .s c => match optNat 0 lo, optNat c.length hi, mx with
      | some l, some h, none => if l ≤ h ∧ h ≤ c.length then some (.s ((c.take h).drop l)) else none
      | _, _, _ => none
    | .slice e, .sl cs len _ => match optNat 0 lo, optNat len hi, optNat len mx with
      | some l, some h, some m => if l ≤ h ∧ h ≤ m ∧ m ≤ len ∧ (mx.isSome → hi.isSome) then
          some (.sl ((cs.take (h * G.size e)).drop (l * G.size e)) (h - l) .any) else none
      | _, _, _ => none
    | .slice e, .bsl o ez ver off len => match optNat 0 lo, optNat len hi, optNat len mx with
      | some l, some h, some m => if l ≤ h ∧ h ≤ m ∧ m ≤ len ∧ (mx.isSome → hi.isSome) ∧ ez = G.size e then some (.bsl o ez ver (off + l * G.size e) (h - l)) else none
      | _, _, _ => none
    | .slice e, .asl o off len => match optNat 0 lo, optNat len hi, optNat len mx with
      | some l, some h, some m => if l ≤ h ∧ h ≤ m ∧ m ≤ len ∧ (mx.isSome → hi.isSome) then some (.asl o (off + l * G.size e) (h - l)) else none
      | _, _, _ => none
    | .arr n e, .ptr o off => match optNat 0 lo, optNat n hi, mx with
      | some l, some h, none => if l ≤ h ∧ h ≤ n then some (.asl o (off + l * G.size e) (h - l)) else none
      | _, _, _ => none
    | _, _ => none


/-- The address of a field. -/
def fieldAddrOp (G : Prg) (t : TypeId) (f : Nat) (x : AV) : Option AV :=
  match (G.ty t).d with
    | .struct fs _ => match fs[f]? with
      | some (off, ft) => if G.size ft = 0 then none else match x with
        | .ptr o o' => some (.ptr o (o' + off))
        | .bp o v o' => some (.bp o v (o' + off))
        | .ep cs => some (.ep (cs.drop off))
        | _ => none
      | none => none
    | _ => none

def fieldOp (G : Prg) (t : TypeId) (f : Nat) (x : AV) : Option AV :=
  match (G.ty t).d, x with
    | .struct fs _, .agg cs => match fs[f]? with
      | some (off, ft) => mkVar (G.isAgg ft) ((cs.drop off).take (G.size ft))
      | none => none
    | _, _ => none

def indexAddrOp (G : Prg) (t : TypeId) (x ix : AV) : Option AV :=
  match (G.ty t).d, natOf ix with
    | .slice e, some i => match x with
      | .sl cs len _ => if i < len ∧ i * G.size e < cs.length then some (.ep (cs.drop (i * G.size e))) else none
      | .bsl o _ ver off len => if i < len then some (.bp o ver (off + i * G.size e)) else none
      | .asl o off len => if i < len then some (.ptr o (off + i * G.size e)) else none
      | _ => none
    | .arr n e, some i => if i < n ∧ 2 ≤ n then match x with
      | .ptr o off => some (.ptr o (off + i * G.size e))
      | .bp o v off => some (.bp o v (off + i * G.size e))
      | .ep cs => some (.ep (cs.drop (i * G.size e)))
      | .gp g => some (.ga g (i * G.size e))
      | _ => none
      else none
    | _, _ => none

def indexOp (G : Prg) (t : TypeId) (x ix : AV) : Option AV :=
  match (G.ty t).d, x, natOf ix with
    | .str, .s c, some i => match c[i]? with | some b => some (.i .u8 b.toNat) | none => none
    | .arr n e, .agg cs, some i => if i < n then mkVar (G.isAgg e) ((cs.drop (i * G.size e)).take (G.size e)) else none
    | _, _, _ => none

def lenOp (G : Prg) (M : List AObj) (t : TypeId) (x : AV) : Option AV :=
  match (G.ty t).d, x with
        | .str, .s c => some (.i .i64 c.length)
        | .map .., .nilm => some (.i .i64 0)
        | .map .., .mp o => match M[o]? with | some (.map es _) => some (.i .i64 es.length) | _ => none
        | .slice _, x => (sliceLen x).map fun (n : Nat) => AV.i .i64 (n : Int)
        | _, _ => none

def buildOp (G : Prg) (t : TypeId) (parts : List (Nat × AV)) : Option AV :=
    if (G.ty t).zero.cells.all AV.cell then match (G.ty t).d with
    | .struct fs _ => (fillAt (fun i => (fs[i]?).map fun f => (f.1, G.size f.2)) parts (G.ty t).zero.cells).map .agg
    | .arr _ e => (fillAt (fun i => some (i * G.size e, G.size e)) parts (G.ty t).zero.cells).map .agg
    | _ => none
    else none

/-- A pointer as unsafe.Pointer, and back. -/
def uconvOp (G : Prg) (M : List AObj) (src dst : TypeId) (x : AV) : Option AV :=
  match (G.ty src).d, (G.ty dst).d, x with
  | .ptr e, .uptr, .ptr o off => match M[o]? with
    | some (.box _ cs) => if off < cs.length ∧ 0 < G.size e then some (.ptr o off) else none
    | _ => none
  | .uptr, .ptr u, .ptr o 0 => match M[o]? with
    | some (.box t cs) => if t = u ∧ cs.length = G.size u ∧ 0 < G.size u then some (.ptr o 0) else none
    | _ => none
  | _, _, _ => none

/-- unsafe.SliceData. -/
def sliceDataOp (x : AV) : Option AV :=
  match x with
  | .sl [] 0 .nil => some .nilp
  | .bsl o _ ver off len => if 0 < len then some (.bp o ver off) else none
  | _ => none

/-- Operations that leave the objects alone. -/
def quietOp (G : Prg) (M : List AObj) (env : List AV) (o : Oper) : Option AV :=
  match o.op with
  | .move x => some (eval env x)
  | .assign x => some (eval env x)
  | .pick c a b => match eval env c with | .b true => some (eval env a) | .b false => some (eval env b) | _ => none
  | .build t ps => buildOp G t (ps.toList.map fun p => (p.1, eval env p.2))
  | .load t a => match readCells M (eval env a) (G.size t) with | some cs => mkVar (G.isAgg t) cs | none => none
  | .nilCheck x => match eval env x with | .ptr o off => some (.ptr o off) | .bp o v off => some (.bp o v off) | .ep cs => some (.ep cs) | .fn f c => some (.fn f c) | .gp g => some (.gp g) | _ => none
  | .binOp op t x y _ => binop (G.ty t).d (litOf x y) op (eval env x) (eval env y)
  | .unOp op _ x => unop op (eval env x)
  | .convert src dst x => match uconvOp G M src dst (eval env x) with
    | some v => some v
    | none => convertOp (G.ty src).d (G.ty dst).d (match (G.ty src).d with | .slice e => (G.ty e).d | _ => .other) M (eval env x)
  | .makeFunc (.func f) first cap => if first = #[] then some (.fn f (cap.toList.map (eval env))) else none
  | .slice t x lo hi mx => sliceOp G t (eval env x) (lo.map (eval env)) (hi.map (eval env)) (mx.map (eval env))
  | .fieldAddr t x f => fieldAddrOp G t f (eval env x)
  | .field t x f => fieldOp G t f (eval env x)
  | .indexAddr t x ix => indexAddrOp G t (eval env x) (eval env ix)
  | .index t x ix => indexOp G t (eval env x) (eval env ix)
  | .lookup t x k ok => lookupOp G M t (eval env x) (eval env k) ok
  | .extract t ix => match eval env t with | .tup vs => vs[ix]? | _ => none
  | .call c => match c.callee with
    | .builtin .len => match c.argTypes.toList, c.args.toList with
      | t :: _, x :: _ => lenOp G M t (eval env x)
      | _, _ => none
    | .builtin .unsafeSliceData => match c.args.toList with
      | [x] => sliceDataOp (eval env x)
      | _ => none
    | .builtin .max => match c.args.toList.map (eval env) with | x :: r => foldO max2 x r | [] => none
    | .builtin .min => match c.args.toList.map (eval env) with | x :: r => foldO min2 x r | [] => none
    | .value f => match eval env f with
      | .fn f [] => match G.ext f with
        | some p => p (c.args.toList.map (eval env))
        | none => none
      | _ => none
    | _ => none
  | _ => none

abbrev Acted := AV × List AObj × List Nat

def Prg.zc (G : Prg) (t : TypeId) : List AV := (G.ty t).zero.cells
def Prg.zcell (G : Prg) (t : TypeId) : Bool := (G.zc t).all AV.cell

/-- A value that a map may hold. -/
def AV.held : AV → Bool
  | .un | .any | .tup _ => false
  | _ => true

def buildSliceOp (G : Prg) (M : List AObj) (t : TypeId) (n : Nat) (parts : List (Nat × AV)) : Option Acted :=
  match (G.ty t).d with
  | .slice e => if G.zcell e = true ∧ n * G.size e ≤ 16777216 then
      (fillAt (fun i => some (i * G.size e, G.size e)) parts (repl n (G.zc e))).map fun cs => (.sl cs n .full, M, [])
    else none
  | _ => none

def boxOp (G : Prg) (M : List AObj) (t : TypeId) (v : AV) : Option Acted :=
  if v.cells.all AV.cell = true then some (.ptr M.length 0, M ++ [.box t v.cells], []) else none

def storeOp (G : Prg) (M : List AObj) (t : TypeId) (p v : AV) : Option Acted :=
  if v.cells.length = G.size t ∧ v.cells.all AV.cell = true ∧ 0 < G.size t then
    match writeCells M p v.cells with | some (M', o) => some (.un, M', [o]) | none => none
  else none

def makeSliceOp (G : Prg) (M : List AObj) (t : TypeId) (l c : AV) : Option Acted :=
  match (G.ty t).d, natOf l, natOf c with
  | .slice e, some l, some c => if l ≤ c ∧ 0 < G.size e ∧ G.zcell e = true ∧ c * ((G.ty e).bytes + 1) ≤ 1000000000 then some (.bsl M.length (G.size e) l 0 l, M ++ [.buf ⟨G.size e, e, false⟩ (repl l (G.zc e)) l 0], []) else none
  | _, _, _ => none

def convOp (G : Prg) (M : List AObj) (src dst : TypeId) (x : AV) : Option Acted :=
  match (G.ty src).d, (G.ty dst).d, x with
  | .str, .slice e, .s c => match (G.ty e).d with
    | .int .u8 => some (.bsl M.length 1 c.length 0 c.length, M ++ [.buf ⟨1, e, true⟩ (bytesOf c) c.length 0], [])
    | _ => none
  | .slice _, .slice e, .sl cs n .full => match (G.ty e).d with
    | .int .u8 => if src = dst then some (.sl cs n .full, M, []) else none
    | _ => none
  | _, _, _ => none

def mapSetOp (G : Prg) (M : List AObj) (t : TypeId) (m k x : AV) : Option Acted :=
  match (G.ty t).d, m with
  | .map kt _, .mp o => if isKey k = true ∧ x.held = true then match M[o]? with
    | some (.map es c) => match findEntry (G.ty kt).d k es 0 with
      | some (some (i, _, born)) => some (.un, M.set o (.map (es.set i (k, x, born)) c), [o])
      | some none => some (.un, M.set o (.map (es ++ [(k, x, c)]) (c + 1)), [o])
      | none => none
    | _ => none
    else none
  | _, _ => none

def mapEntryOp (G : Prg) (M : List AObj) (t : TypeId) (m k : AV) : Option Acted :=
  match (G.ty t).d, m with
  | .map kt e, .mp o => if isKey k = true ∧ G.zcell e = true then match M[o]? with
    | some (.map es c) => match findEntry (G.ty kt).d k es 0 with
      | some (some (i, v, born)) => some (.tup [v, .i .i64 born], M.set o (.map (es.set i (k, v, born)) c), [o])
      | some none => some (.tup [(G.ty e).zero, .i .i64 c], M.set o (.map (es ++ [(k, (G.ty e).zero, c)]) (c + 1)), [o])
      | none => none
    | _ => none
    else none
  | _, _ => none

def findBorn (born : Int) : List (AV × AV × Nat) → Nat → Option (Nat × AV × Nat)
  | [], _ => none
  | (k, _, b) :: r, i => if (b : Int) == born then some (i, k, b) else findBorn born r (i + 1)

def entryStoreOp (M : List AObj) (m st x : AV) : Option Acted :=
  match m, st with
  | .mp o, .i _ born => if x.held = true then match M[o]? with
    | some (.map es c) => match findBorn born es 0 with
      | some (i, k, bn) => some (.un, M.set o (.map (es.set i (k, x, bn)) c), [o])
      | none => none
    | _ => none
    else none
  | _, _ => none

/-- What an append or a copy reads: cells and how many elements. -/
def srcOp (G : Prg) (M : List AObj) (e xt : TypeId) (x : AV) : Option (List AV × Nat) :=
  match (G.ty xt).d, x with
  | .int _, .i _ n => if 0 ≤ n ∧ n * ((G.ty e).bytes + 1) ≤ 1000000000 ∧ G.zcell e = true then some (repl n.toNat (G.zc e), n.toNat) else none
  | .str, .s c => if G.size e = 1 then some (bytesOf c, c.length) else none
  | .slice _, x => sliceCells M (G.size e) x
  | _, _ => none

def SK.roomless : SK → Bool
  | .any => false
  | _ => true

def appendOp (G : Prg) (M : List AObj) (st xt : TypeId) (d x : AV) : Option Acted :=
  match (G.ty st).d with
  | .slice e => match srcOp G M e xt x with
    | some (xs, n) =>
      if xs.length = n * G.size e ∧ 0 < G.size e ∧ xs.all AV.cell = true ∧ G.zcell e = true then
        if n = 0 then (if (sliceLen d).isSome then some (d, M, []) else none)
        else match d with
          | .sl cs len k => if k.roomless = true ∧ cs.length = len * G.size e ∧ cs.all AV.cell = true ∧ (len + n) * ((G.ty e).bytes + 1) ≤ 1000000000 then
              some (.bsl M.length (G.size e) (len + n) 0 (len + n), M ++ [.buf ⟨G.size e, e, false⟩ (cs ++ xs) (len + n) 0], []) else none
          | .bsl o ez ver off len => match M[o]? with
            | some (.buf ez' cs v f) => if v = ver ∧ off = 0 ∧ len = ver ∧ ez = G.size e ∧ ez'.n = G.size e ∧ ez'.t = e ∧ (len + n) * ((G.ty e).bytes + 1) ≤ 1000000000 then
                some (.bsl o ez (len + n) 0 (len + n), M.set o (.buf ez' (cs ++ xs) (len + n) f), [o]) else none
            | _ => none
          | _ => none
      else none
    | none => none
  | _ => none

/-- The address of a slice's first cell. -/
def AV.row : AV → AV
  | .bsl o _ ver off _ => .bp o ver off
  | .asl o off _ => .ptr o off
  | _ => .un

def copyOp (G : Prg) (M : List AObj) (dt xt : TypeId) (d x : AV) : Option Acted :=
  match (G.ty dt).d with
  | .slice e => match (match (G.ty xt).d, x with | .int _, _ => none | _, _ => srcOp G M e xt x), sliceLen d with
    | some (xs, n), some dn =>
      if xs.length = n * G.size e ∧ 0 < G.size e ∧ xs.all AV.cell = true then
        if min n dn = 0 then some (.i .i64 0, M, []) else
        match writeCells M d.row (xs.take (min n dn * G.size e)) with
        | some (M', o) => some (.i .i64 (min n dn : Nat), M', [o])
        | none => none
      else none
    | _, _ => none
  | _ => none

def deleteOp (G : Prg) (M : List AObj) (t : TypeId) (m k : AV) : Option Acted :=
  if isKey k then match (G.ty t).d, m with
    | .map .., .nilm => some (.tup [], M, [])
    | .map kt _, .mp o => match M[o]? with
      | some (.map es c) => match findEntry (G.ty kt).d k es 0 with
        | some (some (i, _, _)) => some (.tup [], M.set o (.map (es.eraseIdx i) c), [o])
        | some none => some (.tup [], M.set o (.map es c), [o])
        | none => none
      | _ => none
    | _, _ => none
  else none

def clearOp (G : Prg) (M : List AObj) (t : TypeId) (m : AV) : Option Acted :=
  match (G.ty t).d, m with
  | .map .., .mp o => match M[o]? with
    | some (.map _ c) => some (.tup [], M.set o (.map [] c), [o])
    | _ => none
  | _, _ => none

def AV.isByte : AV → Bool
  | .i .u8 n => decide (0 ≤ n) && decide (n < 256)
  | _ => false

/-- unsafe.String: the bytes may not be written any more. -/
def unsafeStringOp (G : Prg) (M : List AObj) (pt : TypeId) (p n : AV) : Option Acted :=
  match n with
  | .i .i64 n => if n = 0 then (match p with | .nilp | .bp .. => some (.s [], M, []) | _ => none) else
    match (G.ty pt).d, p with
    | .ptr u, .bp o ver 0 => match M[o]? with
      | some (.buf e cs v f) => if v = ver ∧ e.t = u ∧ e.n = 1 ∧ e.m = false ∧ G.size u = 1 ∧ 0 < n ∧ n.toNat ≤ cs.length ∧ n.toNat ≤ 1000000000000 ∧ (cs.take n.toNat).all AV.isByte = true then
          match toBytes (cs.take n.toNat) with
          | some s => some (.s s, M.set o (.buf e cs v (max f n.toNat)), [o])
          | none => none
        else none
      | _ => none
    | _, _ => none
  | _ => none

/-- Operations that change or make objects (no calls). The third: an old object that was written. -/
def actOp (G : Prg) (M : List AObj) (env : List AV) (o : Oper) : Option Acted :=
  match o.op with
  | .buildSlice t n ps => buildSliceOp G M t n (ps.toList.map fun p => (p.1, eval env p.2))
  | .alloc t => boxOp G M t (G.ty t).zero
  | .box t x => boxOp G M t (eval env x)
  | .store t a x => storeOp G M t (eval env a) (eval env x)
  | .makeMap _ none => some (.mp M.length, M ++ [.map [] 0], [])
  | .makeSlice t l c => makeSliceOp G M t (eval env l) (eval env c)
  | .convert src dst x => convOp G M src dst (eval env x)
  | .mapUpdate t m k x => mapSetOp G M t (eval env m) (eval env k) (eval env x)
  | .insert t m k x => mapSetOp G M t (eval env m) (eval env k) (eval env x)
  | .mapEntry t m k => mapEntryOp G M t (eval env m) (eval env k)
  | .entryStore _ m st x => entryStoreOp M (eval env m) (eval env st) (eval env x)
  | .call c => match c.callee, c.argTypes.toList, c.args.toList with
    | .builtin .append, [st, xt], [d, x] => appendOp G M st xt (eval env d) (eval env x)
    | .builtin .copy, [dt, xt], [d, x] => copyOp G M dt xt (eval env d) (eval env x)
    | .builtin .delete, t :: _, [m, k] => deleteOp G M t (eval env m) (eval env k)
    | .builtin .clear, t :: _, [m] => clearOp G M t (eval env m)
    | .builtin .unsafeString, [pt, _], [p, n] => unsafeStringOp G M pt (eval env p) (eval env n)
    | _, _, _ => none
  | _ => none

/-- Slices over buffers become slices by value; the buffers' cells are not written any more. The third: the buffers. -/
def freezeL (fz : List AObj → AV → Option Acted) : List AObj → List AV → Option (List AV × List AObj × List Nat)
  | M, [] => some ([], M, [])
  | M, x :: r => match fz M x with
    | some (x, M, D) => match freezeL fz M r with
      | some (r, M, D') => some (x :: r, M, D ++ D')
      | none => none
    | none => none

/-- Values that hold no others. -/
def AV.plain : AV → Bool
  | .agg _ | .tup _ | .bsl .. => false
  | _ => true

def freezeC (fz : List AObj → AV → Option Acted) (M : List AObj) (cs : List AV) : Option (List AV × List AObj × List Nat) :=
  if cs.all AV.plain then some (cs, M, []) else freezeL fz M cs

def freeze : Nat → List AObj → AV → Option Acted
  | 0, _, _ => none
  | n + 1, M, x => match x with
    | .agg cs => match freezeL (freeze n) M cs with | some (cs, M, D) => some (.agg cs, M, D) | none => none
    | .tup cs => match freezeL (freeze n) M cs with | some (cs, M, D) => some (.tup cs, M, D) | none => none
    | .bsl o ez ver off len => match M[o]? with
      | some (.buf e cs v _) => if v = ver ∧ ez = e.n ∧ off + len * e.n ≤ cs.length then
          match freezeC (freeze n) M cs with
          | some (cs', M, D) => match M[o]? with
            | some (.buf e' _ v' _) => if e' = e ∧ v' = v ∧ cs'.all AV.cell = true then
                some (.sl ((cs'.drop off).take (len * e.n)) len .any, M.set o (.buf e cs' v cs'.length), o :: D) else none
            | _ => none
          | none => none
        else none
      | _ => none
    | x => some (x, M, [])

/-- All references lie below n. -/
def refs (n : Nat) : AV → Bool
  | .ptr o _ | .bp o _ _ | .bsl o _ _ _ _ | .asl o _ _ | .mp o => decide (o < n)
  | .agg cs | .tup cs | .sl cs _ _ | .ep cs | .fn _ cs => refsL n cs
  | _ => true
where refsL (n : Nat) : List AV → Bool
  | [] => true
  | x :: r => refs n x && refsL n r

def refsE (n : Nat) : List (AV × AV × Nat) → Bool
  | [] => true
  | (k, v, _) :: r => refs n k && refs n v && refsE n r

def refsO (n : Nat) : AObj → Bool
  | .box _ cs | .buf _ cs _ _ => refs.refsL n cs
  | .map es _ => refsE n es

inductive X where
  | normal | exit (id : Nat) | ret

/-- The temporaries, the objects, the elder objects that were turned. -/
abbrev St := List AV × List AObj × List Nat
abbrev Out := X × St

def wanted (o : Oper) (ops : Array Oper) (env : List AV) : Option Bool :=
  match o.guard with
  | none => some true
  | some (j, want) => match (ops[j]?).bind (·.dst) with
    | some d => if d < env.length then (match env.getD d .un with | .b x => some (x == want) | .any => none | _ => some false) else some false
    | none => some false

def put (env : List AV) (dst : Option Tmp) (v : AV) : List AV := match dst with | some d => env.set d v | none => env

abbrev Prim := FuncId → Option (List AV → List AObj → Option Acted)

def results (G : Prg) (env : List AV) (M : List AObj) : List ResultVar → Option (List AV)
  | [] => some []
  | .tmp t :: r => match results G env M r with | some l => some (env.getD t .un :: l) | none => none
  | .cell a t :: r => match readCells M (env.getD a .un) (G.size t) with
    | some cs => match mkVar (G.isAgg t) cs, results G env M r with
      | some v, some l => some (v :: l)
      | _, _ => none
    | none => none

def one : List AV → AV
  | [x] => x
  | l => .tup l

def callee (env : List AV) (c : Call) : Option (FuncId × List AV) :=
  match c.callee with
  | .value f => match eval env f with
    | .fn f cap => some (f, c.args.toList.map (eval env) ++ cap)
    | _ => none
  | _ => none

/-- Objects that nothing leads to any more are forgotten, where this is seen at once. -/
def gc (n0 : Nat) (r : AV) (M : List AObj) (D : List Nat) : List AObj :=
  if refs n0 r && D.all (fun d => if d < n0 then (match M[d]? with | some o => refsO n0 o | none => true) else true) then M.take n0 else M

mutual
def AV.eqb : AV → AV → Bool
  | .un, .un => true
  | .b x, .b y => x == y
  | .i k n, .i k' m => decide (k = k') && n == m
  | .s x, .s y => x == y
  | .nilp, .nilp => true
  | .nilm, .nilm => true
  | .nilf, .nilf => true
  | .nili, .nili => true
  | .ie, .ie => true
  | .gp g, .gp h => g == h
  | .ga g f, .ga h f' => g == h && f == f'
  | .agg cs, .agg ds => AV.eqbL cs ds
  | .tup cs, .tup ds => AV.eqbL cs ds
  | .ptr o f, .ptr p g => o == p && f == g
  | .bp o v f, .bp p u g => o == p && v == u && f == g
  | .bsl o e v f l, .bsl p d u g m => o == p && e == d && v == u && f == g && l == m
  | .asl o f l, .asl p g m => o == p && f == g && l == m
  | .sl cs n k, .sl ds m k' => AV.eqbL cs ds && n == m && (match k, k' with | .any, .any => true | .full, .full => true | .nil, .nil => true | _, _ => false)
  | .ep cs, .ep ds => AV.eqbL cs ds
  | .mp o, .mp p => o == p
  | .fn f cs, .fn g ds => decide (f = g) && AV.eqbL cs ds
  | _, _ => false
def AV.eqbL : List AV → List AV → Bool
  | [], [] => true
  | x :: xs, y :: ys => AV.eqb x y && AV.eqbL xs ys
  | _, _ => false
end

abbrev Stp := Oper → List AV → List AObj → Option Acted

/-- A region's operations in the order of the text. -/
def traceL (stp : Stp) (all : Array Oper) : List Oper → List AV → List AObj → Option (List Acted)
  | [], _, _ => some []
  | o :: r, env, M => match wanted o all env with
    | none => none
    | some false => match traceL stp all r (put env o.dst .un) M with
      | some l => some ((.un, M, []) :: l)
      | none => none
    | some true => match stp o env M with
      | some (v, M', D) => match traceL stp all r (put env o.dst v) M' with
        | some l => some ((v, M', D) :: l)
        | none => none
      | none => none

/-- The objects stay. -/
def stays (M : List AObj) (r : Acted) : Bool := r.2.2.isEmpty && r.2.1.length == M.length

/-- The operations that turn objects, by their places. -/
def chainsL : Nat → List AObj → List Acted → List Nat
  | _, _, [] => []
  | i, M, r :: l => if stays M r then chainsL (i + 1) r.2.1 l else i :: chainsL (i + 1) r.2.1 l

def ancMask (o : Oper) (acc : List Nat) : Nat :=
  o.after.toList.foldl (fun m e => if Region.binds .any e then (m ||| acc.getD e.on 0) ||| (1 <<< e.on) else m) 0
/-- Who comes before whom: a mask for each. -/
def ancs : List Oper → List Nat → List Nat
  | [], acc => acc
  | o :: r, acc => ancs r (acc ++ [ancMask o acc])

/-- Where the chain may stand when the i-th operation is carried out. -/
def win (tab : List Nat) (i n : Nat) : List Nat → List Nat
  | [] => [n]
  | c :: cs => (if (tab.getD i 0).testBit c then [] else [c]) ++ (if (tab.getD c 0).testBit i || c == i then [] else win tab i n cs)

/-- Operations that the objects have no part in. -/
def pureOp (o : Oper) : Bool :=
  match o.op with
  | .move _ | .assign _ | .pick .. | .build .. | .nilCheck _ | .binOp .. | .unOp .. | .makeFunc .. | .slice .. | .fieldAddr .. | .field .. | .indexAddr .. | .index .. | .extract .. => true
  | _ => false

def isAlloc (o : Oper) : Bool := match o.op, o.dst with | .alloc _, some _ => true | _, _ => false

def putAll : List Oper → List Acted → List AV → List AV
  | o :: os, r :: rs, env => putAll os rs (put env o.dst r.1)
  | _, _, env => env

def matAt (M : List AObj) (rs : List Acted) (p : Nat) : List AObj := match p with | 0 => M | p + 1 => match rs[p]? with | some r => r.2.1 | none => M

/-- One operation may come at each of its times. -/
def chk1 (stp : Stp) (all : Array Oper) (tab cs W : List Nat) (M : List AObj) (rs : List Acted) (i : Nat) (o : Oper) (r : Acted) (env : List AV) : Bool :=
  (o.after.toList.all fun e => !Region.binds .any e || decide (e.on < i)) &&
  (match o.dst with | some d => (all.toList.take i).all fun o' => !(o'.dst == some d) | none => true) &&
  ((o.looksAt all).all fun d => (List.range all.size).all fun j => match all[j]? with
    | some o' => if o'.dst == some d then ((tab.getD i 0).testBit j && (!cs.contains j || W.all fun p => decide (j < p))) || (decide (i < j) && (tab.getD j 0).testBit i) else true
    | none => true) &&
  (if cs.contains i then isAlloc o || W.all fun p => p == i
   else W.all fun p => (cs.all fun c => !(decide (i ≤ c) && decide (c < p)) && !(decide (p ≤ c) && decide (c < i))) || pureOp o ||
    (match wanted o all env with
     | some false => true
     | _ => match stp o env (matAt M rs p) with
      | some (v, M', D) => AV.eqb v r.1 && D.isEmpty && M'.length == (matAt M rs p).length
      | none => false))

def chkL (stp : Stp) (all : Array Oper) (tab cs : List Nat) (M : List AObj) (rs : List Acted) : Nat → List Oper → List Acted → List AV → Bool
  | i, o :: os, r :: l, env => chk1 stp all tab cs (win tab i all.size cs) M rs i o r env && chkL stp all tab cs M rs (i + 1) os l (put env o.dst r.1)
  | _, _, _, _ => true

/-- A region whose order is open: it is carried out in the text's order, and no other order does otherwise. -/
def drawn (stp : Stp) (ops : Array Oper) (st : St) : Option St :=
  match traceL stp ops ops.toList st.1 st.2.1 with
  | none => none
  | some rs => if chkL stp ops (ancs ops.toList []) (chainsL 0 st.2.1 rs) st.2.1 rs 0 ops.toList rs st.1 then
      some (putAll ops.toList rs st.1, matAt st.2.1 rs rs.length, rs.flatMap (·.2.2) ++ st.2.2)
    else none

mutual
def exec (G : Prg) (pr : Prim) : Nat → Code → St → Option Out
  | 0, _, _ => none
  | n + 1, c, st => match c with
    | .skip => some (.normal, st)
    | .region _ ops draw => match (if draw then drawn (fun o env M => step G pr n o (env, M, [])) ops st else execOps G pr n ops ops.toList st) with
      | some st => some (.normal, st)
      | none => none
    | .seq a b => match exec G pr n a st with
      | some (.normal, st) => exec G pr n b st
      | r => r
    | .cond c a b => match eval st.1 c with
      | .b true => exec G pr n a st
      | .b false => exec G pr n b st
      | _ => none
    | .block id a => match exec G pr n a st with
      | some (.exit id', st) => if id' = id then some (.normal, st) else some (.exit id', st)
      | r => r
    | .loop a => match exec G pr n a st with
      | some (.normal, st) => exec G pr n (.loop a) st
      | r => r
    | .exit id => some (.exit id, st)
    | .ret => some (.ret, st)
    | _ => none
def execOps (G : Prg) (pr : Prim) : Nat → Array Oper → List Oper → St → Option St
  | 0, _, _, _ => none
  | n + 1, all, l, st => match l with
    | [] => some st
    | o :: r => match wanted o all st.1 with
      | none => none
      | some false => execOps G pr n all r (put st.1 o.dst .un, st.2)
      | some true => match step G pr n o st with
        | some (v, M, D) => execOps G pr n all r (put st.1 o.dst v, M, D ++ st.2.2)
        | none => none
def step (G : Prg) (pr : Prim) : Nat → Oper → St → Option Acted
  | 0, _, _ => none
  | n + 1, o, st => match quietOp G st.2.1 st.1 o with
    | some v => some (v, st.2.1, [])
    | none => match actOp G st.2.1 st.1 o with
      | some r => some r
      | none => match o.op with
        | .call c => match callee st.1 c with
          | some (f, args) => callF G pr n f args st.2.1
          | none => none
        | _ => none
def callF (G : Prg) (pr : Prim) : Nat → FuncId → List AV → List AObj → Option Acted
  | 0, _, _, _ => none
  | n + 1, f, args, M => match (if G.keepArg f then some (args, M, []) else freezeL (freeze 6) M args) with
    | none => none
    | some (args, M1, D1) => match body G pr n f args M1 with
      | some (r, M2, D2) => some (r, M2, D1 ++ D2)
      | none => none
def body (G : Prg) (pr : Prim) : Nat → FuncId → List AV → List AObj → Option Acted
  | 0, _, _, _ => none
  | n + 1, f, args, M => match pr f with
      | some p => p args M
      | none => match G.fn f with
        | none => none
        | some fd => match exec G pr n fd.body (args ++ List.replicate (fd.ntmps - args.length) .un, M, []) with
          | some (.exit _, _) => none
          | some (_, env, M', D) => match results G env M' fd.results with
            | some rs => match (if G.keepRet f then some (one rs, M', []) else freeze 7 M' (one rs)) with
              | some (r, M', D') => some (r, (if G.gcOn f then gc M.length r M' (D' ++ D) else M'), (D' ++ D).filter (fun d => decide (d < M.length)))
              | none => none
            | none => none
          | none => none
end
end Go.Adm
set_option linter.unusedVariables false
namespace Go.Adm
open Go

structure Ctx where
  M : List AObj
  ι : List Nat
  F : Nat → Nat
  w : World
  B : Nat

def verO : Option AObj → Nat
  | some (.buf _ _ v _) => v
  | _ => 0
def eszO : Option AObj → Nat
  | some (.buf e _ _ _) => e.n
  | _ => 0
def Ctx.L (K : Ctx) (o : Nat) : Nat := verO K.M[o]?
def Ctx.E (K : Ctx) (o : Nat) : Nat := eszO K.M[o]?
def Ctx.at (K : Ctx) (o : Nat) : Nat := K.ι.getD o 0

/-- How many cells a block has. -/
def bsize (w : World) (b : Nat) : Option Nat := match w.heap[b]? with | some (.cells c _ _) => some c.size | _ => none

/-- The plain address of a cell. -/
abbrev ad (b off : Nat) : Addr := { block := b, off := off, spot := none }

def SK.ok (K : Ctx) (a : Option Addr) (len c : Nat) : SK → Prop
  | .any => True
  | .full => c = len ∧ ∃ b' off' n, a = some (ad b' off') ∧ K.B ≤ b' ∧ Adm.bsize K.w b' = some n ∧ n < K.F b'
  | .nil => a = none ∧ len = 0 ∧ c = 0

mutual
inductive Rep (K : Ctx) : AV → Value → Prop
  | un : Rep K .un undef
  | any (v : Value) : Rep K .any v
  | b (x : Bool) : Rep K (.b x) (.bool x)
  | i (k : IntKind) (n : Int) : Rep K (.i k n) (.int k n)
  | s (x : List UInt8) : Rep K (.s x) (.string ⟨x.toArray⟩)
  | nilp : Rep K .nilp (.pointer none)
  | nilm : Rep K .nilm (.map none)
  | nilf : Rep K .nilf .nilFunc
  | nili : Rep K .nili .nilIface
  | ie (t : TypeId) (x : Value) : Rep K .ie (.iface t x)
  | gp (g : Nat) : Rep K (.gp g) (.pointer (some ⟨g, 0, none⟩))
  | ga (g off : Nat) : Rep K (.ga g off) (.pointer (some ⟨g, off, none⟩))
  | agg (cs : List AV) (vs : List Value) (h : RepL K cs vs) : Rep K (.agg cs) (.agg vs.toArray)
  | tup (cs : List AV) (vs : List Value) (h : RepL K cs vs) : Rep K (.tup cs) (.tuple vs.toArray)
  | ptr (o off : Nat) (h : o < K.ι.length) (hE : K.E o = 0) : Rep K (.ptr o off) (.pointer (some (ad (K.at o) off)))
  | bp (o ver off : Nat) (a : Addr) (h : o < K.ι.length) (hv : ver ≤ K.L o) (ha : ver = K.L o → a = (ad (K.at o) off)) : Rep K (.bp o ver off) (.pointer (some a))
  | bsl (o ez ver off len : Nat) (a : Option Addr) (c : Nat) (h : o < K.ι.length) (hv : ver ≤ K.L o)
      (ha : ver = K.L o → 0 < len ∨ off = 0 → a = some (ad (K.at o) off) ∧ ∃ n, bsize K.w (K.at o) = some n ∧ off + c * ez ≤ n) (hc : len ≤ c) (hn : a ≠ none) : Rep K (.bsl o ez ver off len) (.slice a len c)
  | asl (o off len : Nat) (a : Option Addr) (c : Nat) (h : o < K.ι.length) (hE : K.E o = 0) (ha : 0 < len → a = some (ad (K.at o) off)) (hc : len ≤ c) (hn : a ≠ none) : Rep K (.asl o off len) (.slice a len c)
  | sl (cs : List AV) (len : Nat) (k : SK) (a : Option Addr) (c : Nat) (b off : Nat) (vs : List Value) (h : RepL K cs vs)
      (ha : cs ≠ [] → a = some (ad b off)) (hf : cs ≠ [] → off + cs.length ≤ K.F b) (hcell : ∀ j (hj : j < vs.length), K.w.cell? (ad b (off + j)) = some vs[j])
      (hk : k.ok K a len c) (hc : len ≤ c) : Rep K (.sl cs len k) (.slice a len c)
  | ep (cs : List AV) (b off : Nat) (vs : List Value) (h : RepL K cs vs) (hf : cs ≠ [] → off + cs.length ≤ K.F b)
      (hcell : ∀ j (hj : j < vs.length), K.w.cell? (ad b (off + j)) = some vs[j]) : Rep K (.ep cs) (.pointer (some (ad b off)))
  | mp (o : Nat) (h : o < K.ι.length) (hE : K.E o = 0) : Rep K (.mp o) (.map (some (K.at o)))
  | fn (f : FuncId) (cs : List AV) (vs : List Value) (h : RepL K cs vs) : Rep K (.fn f cs) (.func (.func f) #[] vs.toArray)
inductive RepL (K : Ctx) : List AV → List Value → Prop
  | nil : RepL K [] []
  | cons (x : AV) (v : Value) (xs : List AV) (vs : List Value) (h : Rep K x v) (t : RepL K xs vs) : RepL K (x :: xs) (v :: vs)
end

/-- What stays of a context when the machine goes on: what is told of values. -/
structure Ext0 (K K' : Ctx) : Prop where
  B : K'.B = K.B
  len : K.ι.length ≤ K'.ι.length
  E : ∀ o, o < K.ι.length → K'.E o = K.E o
  L : ∀ o, o < K.ι.length → K.L o ≤ K'.L o
  at_ : ∀ o, o < K.ι.length → K'.L o = K.L o → K'.at o = K.at o
  at0 : ∀ o, o < K.ι.length → K.E o = 0 → K'.at o = K.at o
  F : ∀ b off, off < K.F b → off < K'.F b ∧ K'.w.cell? (ad b off) = K.w.cell? (ad b off)
  bsize : ∀ b n, bsize K.w b = some n → bsize K'.w b = some n
  heap : K.w.heap.size ≤ K'.w.heap.size
  os : K'.w.os = K.w.os
  tape : K'.w.tape = K.w.tape
  output : K'.w.output = K.w.output

/-- .. and what is no object's. -/
structure Ext (K K' : Ctx) : Prop extends Ext0 K K' where
  new : ∀ o, o < K'.ι.length → (∃ o', o' < K.ι.length ∧ K'.at o = K.at o') ∨ K.w.heap.size ≤ K'.at o
  frame : ∀ b, b < K.w.heap.size → (∀ o, o < K.ι.length → K.at o ≠ b) →
    K'.w.heap[b]? = K.w.heap[b]? ∨ (K.B ≤ b ∧ ∃ c t fr fr', K.w.heap[b]? = some (.cells c t fr) ∧ K'.w.heap[b]? = some (.cells c t fr') ∧ ∀ off, off < c.size → (K'.w.frozen? (ad b off) = K.w.frozen? (ad b off)))
  frameF : ∀ b, b < K.w.heap.size → (∀ o, o < K.ι.length → K.at o ≠ b) → K'.F b = K.F b

theorem Ext.refl (K : Ctx) : Ext K K :=
  ⟨⟨rfl, Nat.le_refl _, fun _ _ => rfl, fun _ _ => Nat.le_refl _, fun _ _ _ => rfl, fun _ _ _ => rfl, fun _ _ h => ⟨h, rfl⟩, fun _ _ h => h, Nat.le_refl _, rfl, rfl, rfl⟩, fun o h => .inl ⟨o, h, rfl⟩, fun _ _ _ => .inl rfl, fun _ _ _ => rfl⟩

theorem Ext.trans {K K' K'' : Ctx} (h : Ext K K') (g : Ext K' K'') : Ext K K'' := {
  B := g.B.trans h.B
  len := Nat.le_trans h.len g.len
  E o ho := (g.E o (Nat.lt_of_lt_of_le ho h.len)).trans (h.E o ho)
  L o ho := Nat.le_trans (h.L o ho) (g.L o (Nat.lt_of_lt_of_le ho h.len))
  at_ o ho e := by
    have h1 := h.L o ho
    have h2 := g.L o (Nat.lt_of_lt_of_le ho h.len)
    have e1 : K'.L o = K.L o := by omega
    have e2 : K''.L o = K'.L o := by omega
    rw [g.at_ o (Nat.lt_of_lt_of_le ho h.len) e2, h.at_ o ho e1]
  at0 o ho e0 := (g.at0 o (Nat.lt_of_lt_of_le ho h.len) ((h.E o ho).trans e0)).trans (h.at0 o ho e0)
  new o ho := by
    rcases g.new o ho with ⟨o', h1, h2⟩ | h2
    · rcases h.new o' h1 with ⟨o2, h3, h4⟩ | h4
      · exact .inl ⟨o2, h3, h2.trans h4⟩
      · exact .inr (by rw [h2]; exact h4)
    · exact .inr (Nat.le_trans h.heap h2)
  F b off hf := by
    obtain ⟨h1, h2⟩ := h.F b off hf
    obtain ⟨h3, h4⟩ := g.F b off h1
    exact ⟨h3, h4.trans h2⟩
  bsize b n hb := g.bsize b n (h.bsize b n hb)
  heap := Nat.le_trans h.heap g.heap
  os := g.os.trans h.os
  tape := g.tape.trans h.tape
  output := g.output.trans h.output
  frameF b hb hn := by
    have hn' : ∀ o, o < K'.ι.length → K'.at o ≠ b := fun o ho e => by
      rcases h.new o ho with ⟨o', h1, h2⟩ | h2
      · exact hn o' h1 (h2.symm.trans e)
      · omega
    exact (g.frameF b (Nat.lt_of_lt_of_le hb h.heap) hn').trans (h.frameF b hb hn)
  frame b hb hn := by
    have hn' : ∀ o, o < K'.ι.length → K'.at o ≠ b := fun o ho e => by
      rcases h.new o ho with ⟨o', h1, h2⟩ | h2
      · exact hn o' h1 (h2.symm.trans e)
      · omega
    have e1 := h.frame b hb hn
    have e2 := g.frame b (Nat.lt_of_lt_of_le hb h.heap) hn'
    rw [h.B] at e2
    rcases e1 with e1 | ⟨hB, c, t, fr, fr', p1, p2, p3⟩
    · rcases e2 with e2 | ⟨hB, c, t, fr, fr', p1, p2, p3⟩
      · exact .inl (e2.trans e1)
      · refine .inr ⟨hB, c, t, fr, fr', by rw [← e1]; exact p1, p2, fun off ho => (p3 off ho).trans ?_⟩
        simp only [World.frozen?, e1]
    · rcases e2 with e2 | ⟨_, c2, t2, fr2, fr2', q1, q2, q3⟩
      · refine .inr ⟨hB, c, t, fr, fr', p1, by rw [e2]; exact p2, fun off ho => ?_⟩
        rw [← p3 off ho]
        simp only [World.frozen?, e2]
      · rw [p2] at q1
        cases q1
        exact .inr ⟨hB, c, t, fr, fr2', p1, q2, fun off ho => (q3 off ho).trans (p3 off ho)⟩ }

theorem RepL.length {K : Ctx} : {xs : List AV} → {vs : List Value} → RepL K xs vs → xs.length = vs.length
  | _, _, .nil => rfl
  | _, _, .cons x v xs vs h t => by simp [RepL.length t]

theorem Ext0.cells {K K' : Ctx} (e : Ext0 K K') {xs : List AV} {vs : List Value} (hl : xs.length = vs.length) {b off : Nat} (hf : xs ≠ [] → off + xs.length ≤ K.F b)
    (hc : ∀ j (hj : j < vs.length), K.w.cell? (ad b (off + j)) = some vs[j]) : (xs ≠ [] → off + xs.length ≤ K'.F b) ∧ ∀ j (hj : j < vs.length), K'.w.cell? (ad b (off + j)) = some vs[j] := by
  refine ⟨fun hne => ?_, fun j hj => ?_⟩
  · have h1 := hf hne
    have : 0 < xs.length := List.length_pos_iff.2 hne
    have := (e.F b (off + (xs.length - 1)) (by omega)).1
    omega
  · have hne : xs ≠ [] := fun e0 => by subst e0; simp at hl; omega
    have h1 := hf hne
    rw [(e.F b (off + j) (by omega)).2]
    exact hc j hj

mutual
theorem Rep.mono {K K' : Ctx} (e : Ext0 K K') : {x : AV} → {v : Value} → Rep K x v → Rep K' x v
  | _, _, .un => .un
  | _, _, .any v => .any v
  | _, _, .b x => .b x
  | _, _, .i k n => .i k n
  | _, _, .s x => .s x
  | _, _, .nilp => .nilp
  | _, _, .nilm => .nilm
  | _, _, .nilf => .nilf
  | _, _, .nili => .nili
  | _, _, .ie t x => .ie t x
  | _, _, .gp g => .gp g
  | _, _, .ga g off => .ga g off
  | _, _, .agg cs vs h => .agg cs vs (RepL.mono e h)
  | _, _, .tup cs vs h => .tup cs vs (RepL.mono e h)
  | _, _, .ptr o off h hE => by
      rw [← e.at0 o h hE]
      exact .ptr o off (Nat.lt_of_lt_of_le h e.len) ((e.E o h).trans hE)
  | _, _, .bp o ver off a h hv ha => by
      refine .bp o ver off a (Nat.lt_of_lt_of_le h e.len) (Nat.le_trans hv (e.L o h)) (fun hh => ?_)
      have := e.L o h
      have e1 : K'.L o = K.L o := by omega
      rw [e.at_ o h e1]
      exact ha (hh.trans e1)
  | _, _, .bsl o ez ver off len a c h hv ha hc hn => by
      refine .bsl o ez ver off len a c (Nat.lt_of_lt_of_le h e.len) (Nat.le_trans hv (e.L o h)) (fun hh hp => ?_) hc hn
      have := e.L o h
      have e1 : K'.L o = K.L o := by omega
      rw [e.at_ o h e1]
      obtain ⟨h1, n, h2, h3⟩ := ha (hh.trans e1) hp
      exact ⟨h1, n, e.bsize _ _ h2, h3⟩
  | _, _, .asl o off len a c h hE ha hc hn => by
      refine .asl o off len a c (Nat.lt_of_lt_of_le h e.len) ((e.E o h).trans hE) (fun hp => ?_) hc hn
      rw [e.at0 o h hE]
      exact ha hp
  | _, _, .sl cs len k a c b off vs h ha hf hcell hk hc => by
      obtain ⟨h1, h2⟩ := e.cells h.length hf hcell
      refine .sl cs len k a c b off vs (RepL.mono e h) ha h1 h2 ?_ hc
      cases k with
      | any => trivial
      | nil => exact hk
      | full =>
        obtain ⟨g1, b', off', n, g2, g3, g4, g5⟩ := hk
        exact ⟨g1, b', off', n, g2, by rw [e.B]; exact g3, e.bsize _ _ g4, (e.F b' n g5).1⟩
  | _, _, .ep cs b off vs h hf hcell => by
      obtain ⟨h1, h2⟩ := e.cells h.length hf hcell
      exact .ep cs b off vs (RepL.mono e h) h1 h2
  | _, _, .mp o h hE => by
      rw [← e.at0 o h hE]
      exact .mp o (Nat.lt_of_lt_of_le h e.len) ((e.E o h).trans hE)
  | _, _, .fn f cs vs h => .fn f cs vs (RepL.mono e h)
theorem RepL.mono {K K' : Ctx} (e : Ext0 K K') : {xs : List AV} → {vs : List Value} → RepL K xs vs → RepL K' xs vs
  | _, _, .nil => .nil
  | _, _, .cons x v xs vs h t => .cons x v xs vs (Rep.mono e h) (RepL.mono e t)
end

theorem RepL.get {K : Ctx} {xs : List AV} {vs : List Value} (h : RepL K xs vs) (j : Nat) (hx : j < xs.length) (hv : j < vs.length) : Rep K xs[j] vs[j] := by
  induction j generalizing xs vs with
  | zero => cases h with
    | nil => simp at hx
    | cons x v xs vs h t => exact h
  | succ j ih => cases h with
    | nil => simp at hx
    | cons x v xs vs h t => exact ih t (by simpa using hx) (by simpa using hv)

theorem RepL.drop {K : Ctx} {xs : List AV} {vs : List Value} (h : RepL K xs vs) (n : Nat) : RepL K (xs.drop n) (vs.drop n) := by
  induction n generalizing xs vs with
  | zero => exact h
  | succ n ih => cases h with
    | nil => exact .nil
    | cons x v xs vs h t => exact ih t

theorem RepL.take {K : Ctx} {xs : List AV} {vs : List Value} (h : RepL K xs vs) (n : Nat) : RepL K (xs.take n) (vs.take n) := by
  induction n generalizing xs vs with
  | zero => exact .nil
  | succ n ih => cases h with
    | nil => exact .nil
    | cons x v xs vs h t => exact .cons _ _ _ _ h (ih t)

theorem RepL.append {K : Ctx} {xs ys : List AV} {vs ws : List Value} (h : RepL K xs vs) (g : RepL K ys ws) : RepL K (xs ++ ys) (vs ++ ws) := by
  induction xs generalizing vs with
  | nil => cases h; exact g
  | cons x xs ih => cases h with | cons _ _ _ _ h t => exact .cons _ _ _ _ h (ih t)

theorem RepL.set {K : Ctx} {xs : List AV} {vs : List Value} (h : RepL K xs vs) (n : Nat) {x : AV} {v : Value} (g : Rep K x v) : RepL K (xs.set n x) (vs.set n v) := by
  induction n generalizing xs vs with
  | zero => cases h with
    | nil => exact .nil
    | cons _ _ _ _ h t => exact .cons _ _ _ _ g t
  | succ n ih => cases h with
    | nil => exact .nil
    | cons _ _ _ _ h t => exact .cons _ _ _ _ h (ih t)

/-- A map's entries, as told. -/
def RepE (K : Ctx) (es : List (AV × AV × Nat)) (ents : List MapEntry) : Prop :=
  es.length = ents.length ∧ ∀ j (h : j < es.length) (h' : j < ents.length), Rep K es[j].1 ents[j].key ∧ Rep K es[j].2.1 ents[j].val ∧ es[j].2.2 = ents[j].born

/-- What an object's block holds. -/
def ObjOK (K : Ctx) (b : Nat) : AObj → Prop
  | .box ty cs => ∃ (c : Array Value) (t : TypeId) (fr : Nat × Nat), K.w.heap[b]? = some (.cells c t fr) ∧ RepL K cs c.toList ∧ (∀ off, off < c.size → K.w.frozen? (ad b off) = false) ∧ K.F b = 0 ∧ cs.all AV.cell = true ∧ t = ty
  | .buf e cs ver fz => ∃ (c : Array Value) (t : TypeId) (fr : Nat × Nat), K.w.heap[b]? = some (.cells c t fr) ∧ cs.length ≤ c.size ∧ RepL K cs (c.toList.take cs.length) ∧ (∀ off, fz ≤ off → off < c.size → K.w.frozen? (ad b off) = false) ∧
      K.F b ≤ fz ∧ fz ≤ cs.length ∧ cs.length = ver * e.n ∧ 0 < e.n ∧ cs.all AV.cell = true ∧ t = e.t ∧ (e.m = false → fr.1 = fr.2 ∨ fr.2 ≤ fz)
  | .map es clock => ∃ ents : Array MapEntry, K.w.heap[b]? = some (.map ents clock) ∧ RepE K es ents.toList ∧ K.F b = 0

/-- The library's tables lie as they were laid. -/
def GlobOK (B : Nat) (w : World) : Prop := ∀ p ∈ globs, p.1 < B ∧ ∃ t fr, w.heap[p.1]? = some (.cells p.2 t fr)

theorem GlobOK.ext {K K' : Ctx} (g : GlobOK K.B K.w) (e : Ext K K') (hb : ∀ o, o < K.ι.length → K.B ≤ K.at o) (hB : K.B ≤ K.w.heap.size) : GlobOK K'.B K'.w := by
  intro p hp
  obtain ⟨h1, t, fr, h2⟩ := g p hp
  refine ⟨by rw [e.B]; exact h1, t, fr, ?_⟩
  rcases e.frame p.1 (by omega) (fun o ho he => by have := hb o ho; omega) with h | ⟨h, _⟩
  · exact h.trans h2
  · omega

structure Inv (K : Ctx) : Prop where
  len : K.ι.length = K.M.length
  inj : ∀ o o', o < K.ι.length → o' < K.ι.length → K.at o = K.at o' → o = o'
  lt : ∀ o, o < K.ι.length → K.at o < K.w.heap.size
  base : ∀ o, o < K.ι.length → K.B ≤ K.at o
  obj : ∀ o (h : o < K.M.length), ObjOK K (K.at o) K.M[o]
  F : ∀ b, 0 < K.F b → b < K.w.heap.size
  baseH : K.B ≤ K.w.heap.size
  /-- rows whose cells never turn, of the program's own making -/
  mark : ∀ b n, bsize K.w b = some n → n < K.F b → ∃ c t, K.w.heap[b]? = some (.cells c t (0, 0)) ∨ K.w.heap[b]? = some (.cells c t (n, n + 1))
  glob : GlobOK K.B K.w

end Go.Adm
set_option linter.unusedVariables false
set_option linter.unusedSimpArgs false
namespace Go.Adm
open Go

section
variable {P : Program} {K : Ctx}

theorem Rep.ofVal (v : Value) : Rep K (ofVal v) v := by
  unfold Adm.ofVal
  split
  · exact .b _
  · exact .i _ _
  · rename_i x
    have : Value.string x = .string ⟨x.data.toList.toArray⟩ := by simp
    rw [this]
    exact .s _
  · exact .nilp
  · exact .nilm
  · exact .nilf
  · exact .nili
  · exact .sl [] 0 .nil none 0 0 0 [] .nil (by simp) (by simp) (by simp) ⟨rfl, rfl, rfl⟩ (by omega)
  · exact .any _

theorem RepL.getD {xs : List AV} {vs : List Value} (h : RepL K xs vs) (t : Nat) : Rep K (xs.getD t .un) (vs.getD t undef) := by
  by_cases ht : t < xs.length
  · have hv : t < vs.length := by rw [← h.length]; exact ht
    simp only [List.getD_eq_getElem?_getD, List.getElem?_eq_getElem ht, List.getElem?_eq_getElem hv, Option.getD_some]
    exact h.get t ht hv
  · have hv : ¬ t < vs.length := by rw [← h.length]; exact ht
    simp only [List.getD_eq_getElem?_getD, List.getElem?_eq_none (Nat.le_of_not_lt ht), List.getElem?_eq_none (Nat.le_of_not_lt hv), Option.getD_none]
    exact .un

/-- The frame's temporaries, as told. -/
def EnvOK (K : Ctx) (env : List AV) (a : Act) : Prop := RepL K env a.tmps.toList

theorem EnvOK.eval {env : List AV} {a : Act} (h : EnvOK K env a) (x : Operand) : Rep K (eval env x) (a.eval x) := by
  cases x with
  | tmp t =>
    have := RepL.getD h t
    simpa [Adm.eval, Act.eval, List.getD_eq_getElem?_getD, Array.getD_eq_getD_getElem?] using this
  | const v => exact Rep.ofVal v
  | global g => exact .gp g
  | func f => exact .fn f [] [] .nil

theorem EnvOK.mono {K' : Ctx} (e : Ext0 K K') {env : List AV} {a : Act} (h : EnvOK K env a) : EnvOK K' env a := RepL.mono e h

theorem EnvOK.put {env : List AV} {a : Act} (h : EnvOK K env a) (dst : Option Tmp) {x : AV} {v : Value} (g : Rep K x v) : EnvOK K (put env dst x) (a.put dst v) := by
  cases dst with
  | none => exact h
  | some d =>
    show RepL K (env.set d x) (a.tmps.setIfInBounds d v).toList
    rw [Array.toList_setIfInBounds]
    exact RepL.set h d g

theorem EnvOK.args {env : List AV} {a : Act} (h : EnvOK K env a) (l : List Operand) : RepL K (l.map (Adm.eval env)) (l.map a.eval) := by
  induction l with
  | nil => exact .nil
  | cons x r ih => exact .cons _ _ _ _ (h.eval x) ih

/-! ### What the table of types says -/
def sizeOK (G : Prg) (P : Program) (e : TypeId) : Prop := ∃ i, P.info? e = some i ∧ i.size = G.size e ∧ i.bytes = (G.ty e).bytes
def zeroOK (G : Prg) (P : Program) (e : TypeId) : Prop := (G.ty e).zero = .any ∨ ∃ i z, P.info? e = some i ∧ i.zero = some z ∧ (∀ K, Rep K (G.ty e).zero z) ∧ (G.ty e).zero.cells.length = G.size e ∧ (G.ty e).zero.cells.all AV.cell = true ∧ z.cells.size = G.size e
/-- The fields of a struct that can be compared: each of one cell. -/
def KindOK (P : Program) (t : TypeId) : TyD → Prop
  | .int _ => ∃ q, P.underlying t = some (.int q)
  | .str => P.underlying t = some .string
  | .bool => P.underlying t = some .bool
  | _ => False
def CmpFields (P : Program) : Nat → List TyD → List Field → Prop
  | _, [], [] => True
  | j, k :: ks, f :: fs => f.name ≠ "_" ∧ f.offset = j ∧ KindOK P f.type k ∧ CmpFields P (j + 1) ks fs
  | _, _, _ => False
def TyOK (G : Prg) (P : Program) (t : TypeId) : Prop :=
  ((G.ty t).d = .bad ∧ (G.ty t).size = 0 ∧ (G.ty t).zero = .any) ∨ (sizeOK G P t ∧ zeroOK G P t ∧ match (G.ty t).d with
    | .int k => P.underlying t = some (.int k)
    | .bool => P.underlying t = some .bool
    | .str => P.underlying t = some .string
    | .ptr e => P.underlying t = some (.pointer e) ∧ sizeOK G P e
    | .uptr => P.underlying t = some .unsafePointer
    | .slice e => P.underlying t = some (.slice e) ∧ sizeOK G P e
    | .arr n e => P.underlying t = some (.array n e) ∧ sizeOK G P e
    | .map k e => P.underlying t = some (.map k e) ∧ KindOK P k (G.ty k).d ∧ zeroOK G P e
    | .struct fs c => ∃ fields : Array Field, P.underlying t = some (.struct fields) ∧ fs = fields.toList.map (fun f => (f.offset, f.type)) ∧ (∀ f ∈ fields.toList, sizeOK G P f.type) ∧ (∀ ks, c = some ks → P.stoodInHeld t = false ∧ P.eqGuardType P.depth t = false ∧ CmpFields P 0 ks fields.toList)
    | .func => ∃ a b c, P.underlying t = some (.func a b c)
    | .iface => ∃ ms, P.underlying t = some (.interface ms)
    | .other => ∃ d, P.underlying t = some d ∧ (∀ fs, d ≠ .struct fs) ∧ (∀ n e, d ≠ .array n e)
    | .bad => False)
/-- What is said of a function without a body. -/
def ExtOK (P : Program) (f : FuncId) (p : List AV → Option AV) : Prop :=
  ∀ (K : Ctx) (xs : List AV) (vs : List Value) (r : AV), RepL K xs vs → p xs = some r → ∃ u, (callFunc f vs.toArray).run P K.w = .ok (.value u) K.w ∧ Rep K r u

structure PrgOK (G : Prg) (P : Program) : Prop where
  ext : ∀ f p, G.ext f = some p → ExtOK P f p
  ty : ∀ t, TyOK G P t
  fn : ∀ f fd, G.fn f = some fd → ∃ F : Func, P.funcs[f]? = some F ∧ F.body = some fd.body ∧ F.ntmps = fd.ntmps ∧ F.results.toList = fd.results ∧ (F.name == "runtime.NumGoroutine") = false

theorem run_sizeOf_ok {G : Prg} {e : TypeId} (h : sizeOK G P e) (w : World) : (sizeOf e).run P w = .ok (G.size e) w := by
  obtain ⟨i, h1, h2, _⟩ := h
  simp [sizeOf, typeInfo, h1, h2]

theorem run_underlying_ok {t : TypeId} {d : TypeDesc} (h : P.underlying t = some d) (w : World) : (underlying t).run P w = .ok d w := by
  simp [underlying, h]

theorem ad_add (b off n : Nat) : (ad b off).add n = ad b (off + n) := by
  unfold Addr.add
  split
  · subst_vars; rfl
  · rfl

theorem RepL.ofVals : ∀ l : List Value, RepL K (l.map Adm.ofVal) l
  | [] => .nil
  | v :: l => .cons _ _ _ _ (Rep.ofVal v) (RepL.ofVals l)

/-- Cells that can be read. -/
theorem readCells_ok (hI : Inv K) {x : AV} {v : Value} (hx : Rep K x v) {n : Nat} {cs : List AV} (h : readCells K.M x n = some cs) :
    ∃ b off vs, v = .pointer (some (ad b off)) ∧ RepL K cs vs ∧ vs.length = n ∧ ∀ j (hj : j < vs.length), K.w.cell? (ad b (off + j)) = some vs[j] := by
  unfold readCells at h
  split at h
  · rename_i o off
    cases hx with
    | ptr _ _ ho hE =>
      have ho' : o < K.M.length := by rw [← hI.len]; exact ho
      have hob := hI.obj o ho'
      rw [List.getElem?_eq_getElem ho'] at h
      split at h
      · rename_i ocs he
        simp only [Option.some.injEq] at he
        rw [he] at hob
        split at h
        · rename_i hle
          simp only [Option.some.injEq] at h
          subst h
          obtain ⟨c, t, fr, h1, h2, h3, h4, h5⟩ := hob
          have hl := h2.length
          simp only [Array.length_toList] at hl
          refine ⟨K.at o, off, (c.toList.drop off).take n, rfl, (h2.drop off).take n, by simp; omega, fun j hj => ?_⟩
          simp only [List.length_take, List.length_drop, Array.length_toList] at hj
          simp only [World.cell?, h1, Option.isSome_none, Bool.false_eq_true, if_false, List.getElem_take, List.getElem_drop, Array.getElem_toList]
          exact Array.getElem?_eq_getElem (by omega)
        · cases h
      · cases h
  · rename_i o ver off
    cases hx with
    | bp _ _ _ a ho hv ha =>
      have ho' : o < K.M.length := by rw [← hI.len]; exact ho
      have hob := hI.obj o ho'
      rw [List.getElem?_eq_getElem ho'] at h
      split at h
      · rename_i e ocs v fz he
        simp only [Option.some.injEq] at he
        rw [he] at hob
        split at h
        · rename_i hle
          obtain ⟨hv1, hle⟩ := hle
          simp only [Option.some.injEq] at h
          subst h
          obtain ⟨c, t, fr, h1, h2, h3, h4, h5⟩ := hob
          have hL : K.L o = v := by simp [Ctx.L, List.getElem?_eq_getElem ho', he, verO]
          rw [ha (by omega)]
          refine ⟨K.at o, off, ((c.toList.take ocs.length).drop off).take n, rfl, (h3.drop off).take n, by simp; omega, fun j hj => ?_⟩
          simp only [List.length_take, List.length_drop, Array.length_toList] at hj
          simp only [World.cell?, h1, Option.isSome_none, Bool.false_eq_true, if_false, List.getElem_take, List.getElem_drop, Array.getElem_toList]
          exact Array.getElem?_eq_getElem (by omega)
        · cases h
      · cases h
  · rename_i ocs
    cases hx with
    | ep _ b off vs hr hf hc =>
      split at h
      · rename_i hle
        simp only [Option.some.injEq] at h
        subst h
        have hl := hr.length
        refine ⟨b, off, vs.take n, rfl, hr.take n, by simp; omega, fun j hj => ?_⟩
        simp only [List.length_take] at hj
        simp only [List.getElem_take]
        exact hc j (by omega)
      · cases h
  · rename_i g off
    cases hx with
    | ga _ _ =>
      split at h
      · rename_i ocs hg
        split at h
        · rename_i hle
          simp only [Option.some.injEq] at h
          subst h
          unfold globA at hg
          obtain ⟨p, hp1, rfl⟩ := Option.map_eq_some_iff.1 hg
          have hmem := List.mem_of_find?_eq_some hp1
          have hpg : p.1 = g := by have := List.find?_some hp1; simpa using this
          subst hpg
          obtain ⟨_, t, fr, hh⟩ := hI.glob p hmem
          simp only [List.length_map, Array.length_toList] at hle
          refine ⟨p.1, off, (p.2.toList.drop off).take n, rfl, ((RepL.ofVals p.2.toList).drop off).take n, by simp; omega, fun j hj => ?_⟩
          simp only [List.length_take, List.length_drop, Array.length_toList] at hj
          simp only [World.cell?, hh, Option.isSome_none, Bool.false_eq_true, if_false, List.getElem_take, List.getElem_drop, Array.getElem_toList]
          exact Array.getElem?_eq_getElem (by omega)
        · cases h
      · cases h
  · cases h

theorem run_isAgg_ok {G : Prg} {t : TypeId} (h : TyOK G P t) (hs : 0 < G.size t ∨ G.isAgg t = true) (w : World) : (isAgg t).run P w = .ok (G.isAgg t) w := by
  rcases h with ⟨h, hz⟩ | ⟨h1, h2, h3⟩
  · rcases hs with hs | hs
    · have := hz.1; simp only [Prg.size] at hs; omega
    · simp [Prg.isAgg, h] at hs
  · have hu : ∃ d, P.underlying t = some d ∧ (match d with | .struct _ | .array _ _ => true | _ => false) = G.isAgg t := by
      unfold Prg.isAgg
      generalize (G.ty t).d = d at h3
      cases d <;> simp only at h3 ⊢
      · exact ⟨_, h3, rfl⟩
      · exact ⟨_, h3, rfl⟩
      · exact ⟨_, h3, rfl⟩
      · exact ⟨_, h3.1, rfl⟩
      · exact ⟨_, h3, rfl⟩
      · exact ⟨_, h3.1, rfl⟩
      · exact ⟨_, h3.1, rfl⟩
      · exact ⟨_, h3.1, rfl⟩
      · obtain ⟨f, h3, _, _⟩ := h3; exact ⟨_, h3, rfl⟩
      · obtain ⟨a, b, c, h3⟩ := h3; exact ⟨_, h3, rfl⟩
      · obtain ⟨a, h3⟩ := h3; exact ⟨_, h3, rfl⟩
      · obtain ⟨d, h3, h4, h5⟩ := h3
        refine ⟨d, h3, ?_⟩
        cases d <;> first | rfl | exact absurd rfl (h4 _) | exact absurd rfl (h5 _ _)
    obtain ⟨d, hu, hd⟩ := hu
    simp only [isAgg, Sem.run_bind, run_underlying_ok hu, Result.andThen_ok]
    cases d <;> simp_all

theorem mkVar_ok {b : Bool} {cs : List AV} {vs : List Value} {y : AV} (h : mkVar b cs = some y) (hr : RepL K cs vs) :
    (b = true ∧ Rep K y (.agg vs.toArray)) ∨ (b = false ∧ ∃ v, vs = [v] ∧ Rep K y v) := by
  unfold mkVar at h
  split at h
  · rename_i hb
    simp only [Option.some.injEq] at h
    subst h
    exact .inl ⟨hb, .agg _ _ hr⟩
  · rename_i hb
    split at h
    · simp only [Option.some.injEq] at h
      subst h
      cases hr with
      | cons _ v _ _ h1 h2 =>
        cases h2
        exact .inr ⟨by simpa using hb, v, rfl, h1⟩
    · cases h

theorem load_ok {G : Prg} (hG : PrgOK G P) (hI : Inv K) {x y : AV} {v : Value} (hx : Rep K x v) {t : TypeId} {cs : List AV} (h : readCells K.M x (G.size t) = some cs) (hm : mkVar (G.isAgg t) cs = some y) :
    ∃ u, (Instr.loadAt t v).run P K.w = .ok u K.w ∧ Rep K y u := by
  obtain ⟨b, off, vs, rfl, hr, hl, hc⟩ := readCells_ok hI hx h
  have ht := hG.ty t
  have hsz : 0 < G.size t ∨ G.isAgg t = true := by
    rcases mkVar_ok hm hr with ⟨h1, _⟩ | ⟨_, u, h1, _⟩
    · exact .inr h1
    · left; rw [← hl, h1]; simp
  have hag := run_isAgg_ok ht hsz K.w
  rcases mkVar_ok hm hr with ⟨h1, h2⟩ | ⟨h1, u, h3, h2⟩
  · have hso : sizeOK G P t := by
      rcases ht with ⟨h, _⟩ | ⟨h, _⟩
      · simp [Prg.isAgg, h] at h1
      · exact h
    refine ⟨_, ?_, h2⟩
    rw [h1] at hag
    have hcells := run_loadCells_list (P := P) K.w (ad b off) vs (fun j u hj => by
      obtain ⟨hj', rfl⟩ := List.getElem?_eq_some_iff.1 hj
      rw [ad_add]; exact hc j hj')
    rw [hl] at hcells
    simp only [Instr.loadAt, Instr.sureAddr, loadVar, Sem.run_bind, Sem.run_pure, Result.andThen_ok, hag, if_true, run_sizeOf_ok hso, hcells, Sem.run_map]
  · refine ⟨u, ?_, h2⟩
    rw [h1] at hag
    subst h3
    have := hc 0 (by simp)
    simp only [Nat.add_zero, List.getElem_cons_zero] at this
    simp only [Instr.loadAt, Instr.sureAddr, loadVar, Sem.run_bind, Sem.run_pure, Result.andThen_ok, hag, Bool.false_eq_true, if_false, run_load, this]

end
end Go.Adm
set_option linter.unusedVariables false
set_option linter.unusedSimpArgs false
namespace Go.Adm
open Go

section
variable {P : Program} {K : Ctx}

theorem ad_ne {b off b' off' : Nat} : ad b off = ad b' off' ↔ b = b' ∧ off = off' := by simp [ad]

/-- A pointer further on in the same variable or row. -/
theorem Rep.field {x : AV} {v : Value} (hx : Rep K x v) (n : Nat) : (∀ o off, x = .ptr o off → ∃ a, v = .pointer (some a) ∧ Rep K (.ptr o (off + n)) (.pointer (some (a.add n)))) ∧
    (∀ o r off, x = .bp o r off → ∃ a, v = .pointer (some a) ∧ Rep K (.bp o r (off + n)) (.pointer (some (a.add n)))) ∧
    (∀ cs, x = .ep cs → ∃ a, v = .pointer (some a) ∧ Rep K (.ep (cs.drop n)) (.pointer (some (a.add n)))) := by
  refine ⟨?_, ?_, ?_⟩
  · rintro o off rfl
    cases hx with
    | ptr _ _ ho hE => exact ⟨_, rfl, by rw [ad_add]; exact .ptr _ _ ho hE⟩
  · rintro o r off rfl
    cases hx with
    | bp _ _ _ a ho hv ha => exact ⟨_, rfl, .bp _ _ _ _ ho hv fun e => by rw [ha e, ad_add]⟩
  · rintro cs rfl
    cases hx with
    | ep _ b off vs hr hf hc =>
      refine ⟨_, rfl, ?_⟩
      rw [ad_add]
      refine .ep _ b (off + n) (vs.drop n) (hr.drop n) (fun hne => ?_) (fun j hj => ?_)
      · have : n < cs.length := by
          rcases Nat.lt_or_ge n cs.length with h | h
          · exact h
          · exact absurd (List.drop_eq_nil_of_le h) hne
        have := hf (fun e => by subst e; simp at this)
        simp only [List.length_drop]
        omega
      · simp only [List.length_drop] at hj
        have := hc (n + j) (by omega)
        simp only [List.getElem_drop]
        rw [← this]
        congr 2
        omega

theorem fieldAt_ok {G : Prg} (hG : PrgOK G P) {x y : AV} {v : Value} (hx : Rep K x v) {t : TypeId} {f : Nat}
    (h : fieldAddrOp G t f x = some y) : ∃ u, (Instr.fieldAt t v f).run P K.w = .ok u K.w ∧ Rep K y u := by
  have ht := hG.ty t
  unfold fieldAddrOp at h
  unfold TyOK at ht
  split at h
  · rename_i fs c hd
    simp only [hd, reduceCtorEq, false_and, false_or] at ht
    obtain ⟨_, _, fields, hu, hfs, hsz, _⟩ := ht
    split at h
    · rename_i off ft hf
      rw [hfs, List.getElem?_map] at hf
      obtain ⟨fd, hfd, he⟩ := Option.map_eq_some_iff.1 hf
      simp only [Prod.mk.injEq] at he
      obtain ⟨rfl, rfl⟩ := he
      have hfd' : fields[f]? = some fd := by simpa using hfd
      split at h
      · cases h
      · rename_i hne
        have hso := hsz fd (List.mem_of_getElem? hfd)
        have hrun : ∀ a : Addr, (Instr.fieldAt t (.pointer (some a)) f).run P K.w = .ok (.pointer (some (a.add fd.offset))) K.w := fun a => by
          simp only [Instr.fieldAt, Sem.run_bind, run_underlying_ok hu, Result.andThen_ok, hfd', Instr.sureAddr, Sem.run_pure, fieldPlace, run_sizeOf_ok hso, hne, if_false]
        obtain ⟨f1, f2, f3⟩ := hx.field fd.offset
        cases x with
        | ptr o off =>
          simp only [Option.some.injEq] at h
          subst h
          obtain ⟨a, rfl, hr⟩ := f1 _ _ rfl
          exact ⟨_, hrun a, hr⟩
        | bp o r off =>
          simp only [Option.some.injEq] at h
          subst h
          obtain ⟨a, rfl, hr⟩ := f2 _ _ _ rfl
          exact ⟨_, hrun a, hr⟩
        | ep cs =>
          simp only [Option.some.injEq] at h
          subst h
          obtain ⟨a, rfl, hr⟩ := f3 _ rfl
          exact ⟨_, hrun a, hr⟩
        | _ => simp at h
    · cases h
  · cases h

theorem natOf_ok {x : AV} {v : Value} (hx : Rep K x v) {n : Nat} (h : natOf x = some n) : ∃ k, v = .int k (n : Int) := by
  unfold natOf at h
  split at h
  · split at h
    · simp only [Option.some.injEq] at h
      cases hx with
      | i k m => exact ⟨_, by congr 1; omega⟩
    · cases h
  · cases h

theorem slice_ty {G : Prg} (hG : PrgOK G P) {t e : TypeId} (hd : (G.ty t).d = .slice e) : P.underlying t = some (.slice e) ∧ sizeOK G P e := by
  have ht := hG.ty t
  unfold TyOK at ht
  simp only [hd, reduceCtorEq, false_and, false_or] at ht
  exact ht.2.2

theorem arr_ty {G : Prg} (hG : PrgOK G P) {t e : TypeId} {n : Nat} (hd : (G.ty t).d = .arr n e) : P.underlying t = some (.array n e) ∧ sizeOK G P e := by
  have ht := hG.ty t
  unfold TyOK at ht
  simp only [hd, reduceCtorEq, false_and, false_or] at ht
  exact ht.2.2

theorem indexAt_ok {G : Prg} (hG : PrgOK G P) {x ix y : AV} {v iv : Value} (hx : Rep K x v) (hix : Rep K ix iv) {t : TypeId}
    (h : indexAddrOp G t x ix = some y) : ∃ u, (Instr.indexAt t v iv).run P K.w = .ok u K.w ∧ Rep K y u := by
  unfold indexAddrOp at h
  split at h
  · rename_i e i hd hn
    obtain ⟨hu, hs⟩ := slice_ty hG hd
    obtain ⟨k, rfl⟩ := natOf_ok hix hn
    have hrun : ∀ (a : Addr) (len c : Nat), i < len → (Instr.indexAt t (.slice (some a) len c) (.int k (i : Int))).run P K.w = .ok (.pointer (some (a.add (i * G.size e)))) K.w := fun a len c hlt => by
      have hc : (0 ≤ (i : Int) ∧ (i : Int) < (len : Int)) := by omega
      simp [Instr.indexAt, asIntOf, run_underlying_ok hu, run_sizeOf_ok hs, hlt]
    cases hx with
    | sl cs len kk a c b off vs hr ha hf hc hk hlc =>
      simp only at h
      split at h
      · rename_i hlt
        simp only [Option.some.injEq] at h
        subst h
        have hcs : cs ≠ [] := fun e0 => by subst e0; simp at hlt
        rw [ha hcs]
        refine ⟨_, hrun _ _ _ hlt.1, ?_⟩
        obtain ⟨a, h1, h2⟩ := ((Rep.ep cs b off vs hr hf hc).field (i * G.size e)).2.2 cs rfl
        cases h1
        exact h2
      · cases h
    | bsl o ez ver off len a c ho hv ha hc hn =>
      simp only at h
      split at h
      · rename_i hlt
        simp only [Option.some.injEq] at h
        subst h
        cases a with
        | none => exact absurd rfl hn
        | some a =>
          refine ⟨_, hrun _ _ _ hlt, .bp _ _ _ _ ho hv fun e' => ?_⟩
          have := (ha e' (.inl (by omega))).1
          simp only [Option.some.injEq] at this
          rw [this, ad_add]
      · cases h
    | asl o off len a c ho hE ha hc =>
      simp only at h
      split at h
      · rename_i hlt
        simp only [Option.some.injEq] at h
        subst h
        rw [ha (by omega)]
        refine ⟨_, hrun _ _ _ hlt, ?_⟩
        rw [ad_add]
        exact .ptr _ _ ho hE
      · cases h
    | _ => simp at h
  · rename_i n e i hd hn
    obtain ⟨hu, hs⟩ := arr_ty hG hd
    obtain ⟨k, rfl⟩ := natOf_ok hix hn
    split at h
    · rename_i hlt
      have hrun : ∀ (a : Addr), (Instr.indexAt t (.pointer (some a)) (.int k (i : Int))).run P K.w = .ok (.pointer (some (a.add (i * G.size e)))) K.w := fun a => by
        simp [Instr.indexAt, asIntOf, run_underlying_ok hu, run_sizeOf_ok hs, hlt.1, Instr.sureAddr]
      obtain ⟨f1, f2, f3⟩ := hx.field (i * G.size e)
      cases x with
      | ptr o off =>
        simp only [Option.some.injEq] at h
        subst h
        obtain ⟨a, rfl, hr⟩ := f1 _ _ rfl
        exact ⟨_, hrun a, hr⟩
      | bp o r off =>
        simp only [Option.some.injEq] at h
        subst h
        obtain ⟨a, rfl, hr⟩ := f2 _ _ _ rfl
        exact ⟨_, hrun a, hr⟩
      | ep cs =>
        simp only [Option.some.injEq] at h
        subst h
        obtain ⟨a, rfl, hr⟩ := f3 _ rfl
        exact ⟨_, hrun a, hr⟩
      | gp g =>
        simp only [Option.some.injEq] at h
        subst h
        cases hx with
        | gp _ =>
          refine ⟨_, hrun (ad g 0), ?_⟩
          rw [ad_add, Nat.zero_add]
          exact .ga g _
      | _ => simp at h
    · cases h
  · cases h
end
end Go.Adm
set_option linter.unusedVariables false
set_option linter.unusedSimpArgs false
namespace Go.Adm
open Go

section
variable {P : Program} {K : Ctx}

theorem intBin_ok {op : BinOp} {k : IntKind} {a c : Int} {r : AV} (t : TypeId) (h1 : op ≠ .shl) (h2 : op ≠ .shr) (h : intBin op k a c = some r) (w : World) :
    ∃ u, (Go.binOp op t (.int k a) (.int k c)).run P w = .ok u w ∧ Rep K r u := by
  cases op <;> simp only [intBin] at h <;> first
    | exact absurd rfl h1
    | exact absurd rfl h2
    | (simp only [Option.some.injEq] at h; subst h; refine ⟨_, ?_, .i _ _⟩; simp [Go.binOp, Op.intArith, Op.intBits]; done)
    | (simp only [Option.some.injEq] at h; subst h; refine ⟨_, ?_, .b _⟩; simp [Go.binOp, Op.intCmp]; done)
    | (split at h
       · cases h
       · rename_i hne
         simp only [Option.some.injEq] at h; subst h; refine ⟨_, ?_, .i _ _⟩; simp [Go.binOp, Op.intDiv, hne]; done)
    | cases h

theorem shift_ok {op : BinOp} {k yk : IntKind} {a c : Int} {r : AV} (t : TypeId)
    (h : (match op with
    | .shl => if c < 0 then none else some (AV.i k (k.wrap (a * 2 ^ (min c.toNat k.bits))))
    | .shr => if c < 0 then none else some (.i k (a.fdiv (2 ^ (min c.toNat k.bits))))
    | _ => if k = yk then intBin op k a c else none) = some r) (w : World) : ∃ u, (Go.binOp op t (.int k a) (.int yk c)).run P w = .ok u w ∧ Rep K r u := by
  split at h
  · split at h
    · cases h
    · rename_i hne
      simp only [Option.some.injEq] at h; subst h; refine ⟨_, ?_, .i _ _⟩; simp [Go.binOp, Op.shift, hne]
  · split at h
    · cases h
    · rename_i hne
      simp only [Option.some.injEq] at h; subst h; refine ⟨_, ?_, .i _ _⟩; simp [Go.binOp, Op.shift, hne]
  · rename_i h1 h2
    split at h
    · rename_i hk
      subst hk
      exact intBin_ok t (fun e => h1 e) (fun e => h2 e) h w
    · cases h

theorem strBin_ok {op : BinOp} {x y : List UInt8} {r : AV} (t : TypeId) (h : strBin op x y = some r) (w : World) :
    ∃ u, (Go.binOp op t (.string ⟨x.toArray⟩) (.string ⟨y.toArray⟩)).run P w = .ok u w ∧ Rep K r u := by
  cases op <;> simp only [strBin] at h <;> first
    | (simp only [Option.some.injEq] at h; subst h; refine ⟨_, ?_, .b _⟩; simp [Go.binOp, Op.stringOp]; done)
    | (split at h
       · rename_i hle
         simp only [Option.some.injEq] at h; subst h
         refine ⟨_, ?_, .s _⟩
         simp only [Go.binOp]
         rw [run_string_add_sum _ _ _ (by simp [ByteArray.size]; omega), ByteArray.mk_append_mk]
       · cases h)
    | cases h

theorem kindEq_ok {k : TyD} {x y : AV} {v u : Value} {b : Bool} (h : kindEq k x y = some b) (hx : Rep K x v) (hy : Rep K y u) (t : TypeId)
    (ht : KindOK P t k) (d : Nat) (w : World) : (Op.equalIn (d + 1) t v u).run P w = .ok b w := by
  unfold kindEq at h
  split at h
  · cases hx with | b p => cases hy with | b q =>
    simp only [Option.some.injEq] at h
    subst h
    have ht : P.underlying t = some .bool := ht
    simp [Op.equalIn, run_underlying ht]
  · cases hx with | i k p => cases hy with | i k' q =>
    obtain ⟨q', ht⟩ := ht
    split at h
    · rename_i hk
      simp only [Option.some.injEq] at h
      subst h
      subst hk
      simp [Op.equalIn, run_underlying ht]
    · cases h
  · cases hx with | s p => cases hy with | s q =>
    simp only [Option.some.injEq] at h
    subst h
    have ht : P.underlying t = some .string := ht
    simp only [Op.equalIn, Sem.run_bind, run_underlying ht, Result.andThen_ok, Sem.run_pure]
    rw [beq_toListBytes]
    simp
  · cases h

theorem part_cell {t : TypeId} {k : TyD} (ht : KindOK P t k) (cs : Array Value) (j : Nat) (v : Value) (hv : cs[j]? = some v) (w : World) : (part t cs j).run P w = .ok v w := by
  have : ∃ d, P.underlying t = some d ∧ (match d with | .struct _ | .array _ _ => true | _ => false) = false := by
    cases k <;> simp only [KindOK] at ht
    · obtain ⟨q, ht⟩ := ht; exact ⟨_, ht, rfl⟩
    · exact ⟨_, ht, rfl⟩
    · exact ⟨_, ht, rfl⟩
  obtain ⟨d, hu, hd⟩ := this
  simp only [part, isAgg, Sem.run_bind, run_underlying_ok hu, Result.andThen_ok]
  cases d <;> simp_all

theorem aggEq_ok : ∀ (ks : List TyD) (fs : List Field) (xs ys : List AV) (vs us : List Value) (b : Bool) (j : Nat) (pv pu : List Value), aggEq ks xs ys = some b → RepL K xs vs → RepL K ys us → CmpFields P j ks fs →
    pv.length = j → pu.length = j → ∀ (d : Nat) (w : World), (Op.eqFields (d + 1) (pv ++ vs).toArray (pu ++ us).toArray fs).run P w = .ok b w := by
  intro ks
  induction ks with
  | nil =>
    intro fs xs ys vs us b j pv pu h hx hy hc h1 h2 d w
    cases fs with
    | cons _ _ => exact hc.elim
    | nil =>
      cases xs <;> cases ys <;> simp only [aggEq, reduceCtorEq, Option.some.injEq] at h
      subst h
      rfl
  | cons k ks ih =>
    intro fs xs ys vs us b j pv pu h hx hy hc h1 h2 d w
    cases fs with
    | nil => exact hc.elim
    | cons f fs =>
      obtain ⟨hn, ho, hk, hc⟩ := hc
      cases hx with
      | nil => simp [aggEq] at h
      | cons x v xs vs hx hxs =>
        cases hy with
        | nil => simp [aggEq] at h
        | cons y u ys us hy hys =>
          simp only [aggEq] at h
          have hp1 := part_cell hk (pv ++ v :: vs).toArray j v (by simp [← h1]) w
          have hp2 := part_cell hk (pu ++ u :: us).toArray j u (by simp [← h2]) w
          simp only [Op.eqFields, hn, ne_eq, not_false_eq_true, if_true, Sem.run_bind, ho, hp1, hp2, Result.andThen_ok]
          cases he : kindEq k x y with
          | none => simp [he] at h
          | some r =>
            simp only [kindEq_ok he hx hy f.type hk d w, Result.andThen_ok]
            cases r with
            | false =>
              simp only [he, Option.some.injEq] at h
              subst h
              simp
            | true =>
              simp only [he] at h
              simp only [Bool.not_true, Bool.false_eq_true, if_false]
              have := ih fs xs ys vs us b (j + 1) (pv ++ [v]) (pu ++ [u]) h hxs hys hc (by simp [h1]) (by simp [h2]) d w
              simpa using this

set_option maxHeartbeats 2000000 in
theorem equalIn_ok {G : Prg} (hG : PrgOK G P) {t : TypeId} {lit : Bool} {x y : AV} {v u : Value} {b : Bool} (h : equal (G.ty t).d lit x y = some b) (hx : Rep K x v) (hy : Rep K y u) (d : Nat) (w : World) :
    (Op.equalIn (d + 2) t v u).run P w = .ok b w := by
  have ht := hG.ty t
  unfold TyOK at ht
  unfold equal at h
  split at h
  case h_18 => cases h
  case h_17 e o f o' f' hd =>
    simp only [hd, reduceCtorEq, false_and, false_or] at ht
    obtain ⟨_, _, hu, i, hi, _⟩ := ht
    split at h
    · rename_i he
      obtain ⟨rfl, rfl⟩ := he
      simp only [Option.some.injEq] at h
      subst h
      cases hx with | ptr _ _ _ _ => cases hy with | ptr _ _ _ _ =>
      simp only [Op.equalIn, Sem.run_bind, run_underlying hu, Result.andThen_ok]
      have hsz : (sizeOf e).run P w = .ok i.size w := by simp [sizeOf, typeInfo, hi]
      have hsa : (sameAddr (ad (K.at o) f) (ad (K.at o) f)).run P w = .ok true w := by simp [sameAddr]
      simp only [hsz, Result.andThen_ok]
      split
      · exact hsa
      · simp
    · cases h
  case h_16 ks xs ys hd =>
    simp only [hd, reduceCtorEq, false_and, false_or] at ht
    obtain ⟨_, _, fields, hu, hfs, _, hc⟩ := ht
    obtain ⟨hs, hg, hc⟩ := hc _ rfl
    cases hx with | agg _ vs hx => cases hy with | agg _ us hy =>
    have hf : P.fieldsOf t = fields := by simp [Program.fieldsOf, hu]
    rw [run_equalIn_struct w (d + 1) t _ _ (by rw [hf]; exact hu) hs, hf]
    exact aggEq_ok ks fields.toList xs ys vs us b 0 [] [] h hx hy hc rfl rfl d w
  case h_13 cs n k hd =>
    simp only [hd, reduceCtorEq, false_and, false_or] at ht
    obtain ⟨_, _, hu, _⟩ := ht
    cases hy with | sl _ _ _ a c b' off vs hr ha hf hc hk hlc =>
    obtain ⟨rfl, _, rfl⟩ := hk
    cases hx with | sl _ _ _ a c b'' off' vs' hr' ha' hf' hc' hk' hlc' =>
    split at h
    · simp only [Option.some.injEq] at h
      subst h
      rw [ha' (by simp)]
      simp [Op.equalIn, run_underlying hu]
    · obtain ⟨rfl, _, rfl⟩ := hk'
      simp only [Option.some.injEq] at h
      subst h
      simp [Op.equalIn, run_underlying hu]
    · obtain ⟨_, b1, o1, n1, rfl, _⟩ := hk'
      simp only [Option.some.injEq] at h
      subst h
      simp [Op.equalIn, run_underlying hu]
    · cases h
  case h_14 hd =>
    simp only [hd, reduceCtorEq, false_and, false_or] at ht
    obtain ⟨_, _, hu, _⟩ := ht
    cases hy with | sl _ _ _ a c b' off vs hr ha hf hc hk hlc =>
    obtain ⟨rfl, _, rfl⟩ := hk
    cases hx with | bsl o ez ver off len a c ho hv ha hc hn =>
    simp only [Option.some.injEq] at h
    subst h
    cases a with
    | none => exact absurd rfl hn
    | some a => simp [Op.equalIn, run_underlying hu]
  case h_15 hd =>
    simp only [hd, reduceCtorEq, false_and, false_or] at ht
    obtain ⟨_, _, hu, _⟩ := ht
    cases hy with | sl _ _ _ a c b' off vs hr ha hf hc hk hlc =>
    obtain ⟨rfl, _, rfl⟩ := hk
    cases hx with | asl o off len a c ho hE ha hc hn =>
    simp only [Option.some.injEq] at h
    subst h
    cases a with
    | none => exact absurd rfl hn
    | some a => simp [Op.equalIn, run_underlying hu]
  case h_1 hd =>
    simp only [hd, reduceCtorEq, false_and, false_or] at ht
    have hu := ht.2.2
    cases hx with | b p => cases hy with | b q =>
    simp only [Option.some.injEq] at h
    subst h
    simp [Op.equalIn, run_underlying hu]
  case h_10 hd =>
    simp only [hd, reduceCtorEq, false_and, false_or] at ht
    obtain ⟨_, _, ms, hu⟩ := ht
    cases hx; cases hy
    split at h
    · simp only [Option.some.injEq] at h
      subst h
      simp [Op.equalIn, run_underlying hu]
    · cases h
  all_goals
    rename_i hd
    simp only [hd, reduceCtorEq, false_and, false_or] at ht
    simp only [Option.some.injEq] at h
    subst h
    cases hx
    cases hy
    first
      | (obtain ⟨_, _, e, hu⟩ := ht; simp [Op.equalIn, run_underlying hu]; done)
      | (obtain ⟨_, _, hu, _⟩ := ht; simp [Op.equalIn, run_underlying hu]; done)

theorem equal_ok {G : Prg} (hG : PrgOK G P) {t : TypeId} {lit : Bool} {x y : AV} {v u : Value} {b : Bool} (h : equal (G.ty t).d lit x y = some b) (hx : Rep K x v) (hy : Rep K y u) (w : World) :
    (Op.equal t v u).run P w = .ok b w := equalIn_ok hG h hx hy 9998 w
end
end Go.Adm
