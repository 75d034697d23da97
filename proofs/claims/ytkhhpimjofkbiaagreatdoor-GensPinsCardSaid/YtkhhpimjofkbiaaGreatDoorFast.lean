/- Part Fast of the proof of GensPins. -/
import Derived.Test.YtkhhpimjofkbiaaGreatDoorRoom3
import Derived.Test.YtkhhpimjofkbiaaGreatDoorFTree
set_option linter.unusedVariables false
set_option linter.unusedSimpArgs false
set_option linter.unusedVariables false
set_option linter.all false
namespace Go.Adm
open Go

/-! ### The heap -/
inductive FObj where
  | flat (x : AObj)
  | sec (e : ES) (n ver fz : Nat) (t : T (List AV))

structure H where
  n : Nat
  t : T FObj

def hdep : Nat := 13
def sdep : Nat := 12
def hmax : Nat := 8192

noncomputable def secCells (n : Nat) (t : T (List AV)) : List AV := (List.range n).flatMap fun i => t.get [] (pth sdep i)

noncomputable def FObj.view : FObj → AObj
  | .flat x => x
  | .sec e n ver fz t => .buf e (secCells n t) ver fz

def fdead : FObj := .flat (.box 0 [])
noncomputable def H.fget (h : H) (o : Nat) : Option FObj := bif Nat.blt o h.n then some (h.t.get fdead (pth hdep o)) else none
noncomputable def H.get (h : H) (o : Nat) : Option AObj := match h.fget o with | some x => some x.view | none => none
noncomputable def H.fset (h : H) (o : Nat) (x : FObj) : H := ⟨h.n, h.t.set x (pth hdep o)⟩
noncomputable def H.set (h : H) (o : Nat) (x : AObj) : H := h.fset o (.flat x)
noncomputable def H.fpush (h : H) (x : FObj) : H := ⟨h.n + 1, h.t.set x (pth hdep h.n)⟩
noncomputable def H.push (h : H) (x : AObj) : H := h.fpush (.flat x)
noncomputable def H.empty : H := ⟨0, .lf fdead⟩
noncomputable def H.room (h : H) : Bool := Nat.blt h.n hmax

/-! ### Numbers -/
noncomputable def natLe (a b : Nat) : Bool := Nat.ble a b
noncomputable def intLt (x y : Int) : Bool := match x, y with
  | .ofNat a, .ofNat b => Nat.blt a b
  | .ofNat _, .negSucc _ => false
  | .negSucc _, .ofNat _ => true
  | .negSucc a, .negSucc b => Nat.blt b a
noncomputable def intLe (x y : Int) : Bool := match x, y with
  | .ofNat a, .ofNat b => Nat.ble a b
  | .ofNat _, .negSucc _ => false
  | .negSucc _, .ofNat _ => true
  | .negSucc a, .negSucc b => Nat.ble b a
noncomputable def intEq (x y : Int) : Bool := match x, y with
  | .ofNat a, .ofNat b => Nat.beq a b
  | .negSucc a, .negSucc b => Nat.beq b a
  | _, _ => false
def halfOf : IntKind → Nat
  | .i8 => 128 | .i16 => 32768 | .i32 => 2147483648 | .i64 => 9223372036854775808
  | .u8 => 256 | .u16 => 65536 | .u32 => 4294967296 | .u64 => 18446744073709551616
def isSig : IntKind → Bool
  | .i8 | .i16 | .i32 | .i64 => true
  | _ => false
/-- As 'wrap', at once where the number fits. -/
noncomputable def wrapF (k : IntKind) (z : Int) : Int := match z with
  | .ofNat m => bif Nat.blt m (halfOf k) then .ofNat m else bif isSig k then k.wrap (.ofNat m) else .ofNat (Nat.mod m (halfOf k))
  | .negSucc m => bif isSig k && Nat.blt m (halfOf k) then .negSucc m else k.wrap (.negSucc m)

def kindB (k k' : IntKind) : Bool := match k, k' with
  | .i8, .i8 | .i16, .i16 | .i32, .i32 | .i64, .i64 | .u8, .u8 | .u16, .u16 | .u32, .u32 | .u64, .u64 => true
  | _, _ => false

noncomputable def intBinF (op : BinOp) (k : IntKind) (x y : Int) : Option AV :=
  match op with
  | .add => some (.i k (wrapF k (Int.add x y)))
  | .sub => some (.i k (wrapF k (Int.sub x y)))
  | .mul => some (.i k (wrapF k (Int.mul x y)))
  | .eql => some (.b (intEq x y))
  | .neq => some (.b (!(intEq x y)))
  | .lss => some (.b (intLt x y))
  | .leq => some (.b (intLe x y))
  | .gtr => some (.b (intLt y x))
  | .geq => some (.b (intLe y x))
  | .xor => match x, y with
    | .ofNat a, .ofNat b => bif isSig k then intBin op k x y else some (.i k (.ofNat (Nat.mod (Nat.xor a b) (halfOf k))))
    | _, _ => intBin op k x y
  | _ => intBin op k x y

noncomputable def eqBytes (a : List UInt8) : List UInt8 → Bool :=
  List.rec (fun b => List.rec true (fun _ _ _ => false) b) (fun x _ ih b => List.rec false (fun y r _ => bif Nat.beq x.toNat y.toNat then ih r else false) b) a

noncomputable def strBinF (op : BinOp) (x y : List UInt8) : Option AV :=
  match op with
  | .eql => some (.b (eqBytes x y))
  | .neq => some (.b (!(eqBytes x y)))
  | _ => strBin op x y

noncomputable def binopF (d : TyD) (lit : Bool) (op : BinOp) (x y : AV) : Option AV :=
  match x with
  | .i k a => match y with
    | .i k' c => match op with
      | .shl => binop d lit op x y
      | .shr => binop d lit op x y
      | _ => bif kindB k k' then intBinF op k a c else none
    | _ => binop d lit op x y
  | .s a => match y with
    | .s c => strBinF op a c
    | _ => binop d lit op x y
  | _ => binop d lit op x y

section
variable (G : Prg) (h : H)

noncomputable def readF (a : AV) (n : Nat) : Option (List AV) :=
  match a with
  | .ptr o off => match h.get o with
    | some (.box _ cs) => bif Nat.beq n 0 then none else takeO n (dropF cs off)
    | _ => none
  | .bp o ver off => match h.fget o with
    | some (.flat (.buf _ cs v _)) => bif Nat.beq v ver && !Nat.beq n 0 then takeO n (dropF cs off) else none
    | some (.sec e m v _ t) => bif Nat.beq v ver && Nat.beq n e.n && Nat.beq (Nat.mod off e.n) 0 && Nat.blt (Nat.div off e.n) m then some (t.get [] (pth sdep (Nat.div off e.n))) else none
    | _ => none
  | .ep cs => takeO n cs
  | .ga g off => match globA g with
    | some cs => bif Nat.beq n 0 then none else takeO n (dropF cs off)
    | none => none
  | _ => none

noncomputable def writeF (a : AV) (vs : List AV) : Option (H × Nat) :=
  match a with
  | .ptr o off => match h.get o with
    | some (.box ty cs) => match writeO vs off cs with | some cs => some (h.set o (.box ty cs), Nat.shiftLeft 1 o) | none => none
    | _ => none
  | .bp o ver off => match h.fget o with
    | some (.flat (.buf e cs v f)) => bif Nat.beq v ver && Nat.ble f off then match writeO vs off cs with | some cs => some (h.set o (.buf e cs v f), Nat.shiftLeft 1 o) | none => none else none
    | some (.sec e m v f t) => bif Nat.beq v ver && Nat.beq vs.length e.n && Nat.beq (Nat.mod off e.n) 0 && Nat.ble f off && Nat.blt (Nat.div off e.n) m then some (h.fset o (.sec e m v f (t.set vs (pth sdep (Nat.div off e.n)))), Nat.shiftLeft 1 o) else none
    | _ => none
  | _ => none

/-- A row of cells out of others: of no cell: it must lie within. -/
noncomputable def cutO (n off : Nat) (cs : List AV) : Option (List AV) := bif Nat.beq n 0 && !Nat.ble off cs.length then none else takeO n (dropF cs off)

noncomputable def sliceCellsF (sz : Nat) : AV → Option (List AV × Nat)
  | .sl cs len _ => some (cs, len)
  | .bsl o ez ver off len => match h.get o with
    | some (.buf e cs v _) => bif Nat.beq v ver && Nat.beq sz ez then match cutO (len * sz) off cs with | some q => some (q, len) | none => none else none
    | _ => none
  | .asl o off len => match h.get o with
    | some (.box _ cs) => match cutO (len * sz) off cs with | some q => some (q, len) | none => none
    | _ => none
  | _ => none

noncomputable def uconvF (src dst : TypeId) (x : AV) : Option AV :=
  match (G.ty src).d, (G.ty dst).d, x with
  | .ptr e, .uptr, .ptr o off => match h.get o with
    | some (.box _ cs) => if off < cs.length ∧ 0 < G.size e then some (.ptr o off) else none
    | _ => none
  | .uptr, .ptr u, .ptr o 0 => match h.get o with
    | some (.box t cs) => if t = u ∧ cs.length = G.size u ∧ 0 < G.size u then some (.ptr o 0) else none
    | _ => none
  | _, _, _ => none

noncomputable def quietF (ev : Operand → AV) (o : Oper) : Option AV :=
  match o.op with
  | .move x => some (ev x)
  | .assign x => some (ev x)
  | .pick c a b => match ev c with | .b true => some (ev a) | .b false => some (ev b) | _ => none
  | .build t ps => buildOp G t (ps.toList.map fun p => (p.1, ev p.2))
  | .load t a => match readF h (ev a) (G.size t) with | some cs => mkVar (G.isAgg t) cs | none => none
  | .nilCheck x => match ev x with | .ptr o off => some (.ptr o off) | .bp o v off => some (.bp o v off) | .ep cs => some (.ep cs) | .fn f c => some (.fn f c) | .gp g => some (.gp g) | _ => none
  | .binOp op t x y _ => binopF (G.ty t).d (litOf x y) op (ev x) (ev y)
  | .unOp op _ x => unop op (ev x)
  | .convert src dst x => match uconvF G h src dst (ev x) with
   | some v => some v
   | none => match (G.ty src).d with
    | .bad => none
    | .slice e => match (G.ty dst).d with
      | .str => match (G.ty e).d with
        | .int .u8 => match sliceCellsF h 1 (ev x) with
          | some (cs, n) => if cs.length = n then (toBytes cs).map .s else none
          | none => none
        | _ => none
      | .int k => match ev x with | .i _ n => some (.i k (wrapF k n)) | _ => none
      | _ => none
    | _ => match (G.ty dst).d, ev x with
      | .int k, .i _ n => some (.i k (wrapF k n))
      | .str, .s x => some (.s x)
      | _, _ => none
  | .makeFunc (.func f) first cap => match first.toList with | [] => some (.fn f (cap.toList.map ev)) | _ => none
  | .slice t x lo hi mx => sliceOp G t (ev x) (lo.map ev) (hi.map ev) (mx.map ev)
  | .fieldAddr t x f => fieldAddrOp G t f (ev x)
  | .field t x f => fieldOp G t f (ev x)
  | .indexAddr t x ix => indexAddrOp G t (ev x) (ev ix)
  | .index t x ix => indexOp G t (ev x) (ev ix)
  | .lookup t x k ok => match (G.ty t).d with
    | .map kt e =>
      if isKey (ev k) = true ∧ (G.ty e).zero.cells.all AV.cell = true then
        match ev x with
        | .nilm => some (if ok then .tup [(G.ty e).zero, .b false] else (G.ty e).zero)
        | .mp o => match h.get o with
          | some (.map es _) => match findEntry (G.ty kt).d (ev k) es 0 with
            | some (some (_, v, _)) => some (if ok then .tup [v, .b true] else v)
            | some none => some (if ok then .tup [(G.ty e).zero, .b false] else (G.ty e).zero)
            | none => none
          | _ => none
        | _ => none
      else none
    | _ => none
  | .extract t ix => match ev t with | .tup vs => nth vs ix | _ => none
  | .call c => match c.callee with
    | .builtin .len => match c.argTypes.toList, c.args.toList with
      | t :: _, x :: _ => match (G.ty t).d with
        | .map .. => match ev x with
          | .nilm => some (.i .i64 0)
          | .mp o => match h.get o with | some (.map es _) => some (.i .i64 es.length) | _ => none
          | _ => none
        | _ => lenOp G [] t (ev x)
      | _, _ => none
    | .builtin .unsafeSliceData => match c.args.toList with
      | [x] => sliceDataOp (ev x)
      | _ => none
    | .builtin .max => match c.args.toList.map ev with | x :: r => foldO max2 x r | [] => none
    | .builtin .min => match c.args.toList.map ev with | x :: r => foldO min2 x r | [] => none
    | .value f => match ev f with
      | .fn f [] => match G.ext f with
        | some p => p (c.args.toList.map ev)
        | none => none
      | _ => none
    | _ => none
  | _ => none

abbrev FActed := AV × H × Nat
noncomputable def bit (o : Nat) : Nat := Nat.shiftLeft 1 o

noncomputable def storeF (t : TypeId) (p v : AV) : Option FActed :=
  if v.cells.length = G.size t ∧ v.cells.all AV.cell = true ∧ 0 < G.size t then
    match writeF h p v.cells with | some (h', m) => some (.un, h', m) | none => none
  else none

noncomputable def makeSliceF (t : TypeId) (l c : AV) : Option FActed :=
  match (G.ty t).d, natOf l, natOf c with
  | .slice e, some l, some c => if l ≤ c ∧ 0 < G.size e ∧ G.zcell e = true ∧ c * ((G.ty e).bytes + 1) ≤ 1000000000 then
      (bif h.room then some (.bsl h.n (G.size e) l 0 l, bif Nat.blt 8 (G.size e) && Nat.ble l 4096 && Nat.beq (G.zc e).length (G.size e) then h.fpush (.sec ⟨G.size e, e, false⟩ l l 0 (.lf (G.zc e))) else h.push (.buf ⟨G.size e, e, false⟩ (repl l (G.zc e)) l 0), 0) else none) else none
  | _, _, _ => none

noncomputable def convF (src dst : TypeId) (x : AV) : Option FActed :=
  match (G.ty src).d, (G.ty dst).d, x with
  | .str, .slice e, .s c => match (G.ty e).d with
    | .int .u8 => bif h.room then some (.bsl h.n 1 c.length 0 c.length, h.push (.buf ⟨1, e, true⟩ (bytesOf c) c.length 0), 0) else none
    | _ => none
  | .slice _, .slice e, .sl cs n .full => match (G.ty e).d with
    | .int .u8 => if src = dst then some (.sl cs n .full, h, 0) else none
    | _ => none
  | _, _, _ => none

noncomputable def mapSetF (t : TypeId) (m k x : AV) : Option FActed :=
  match (G.ty t).d, m with
  | .map kt _, .mp o => if isKey k = true ∧ x.held = true then match h.get o with
    | some (.map es c) => match findEntry (G.ty kt).d k es 0 with
      | some (some (i, _, born)) => some (.un, h.set o (.map (es.set i (k, x, born)) c), bit o)
      | some none => some (.un, h.set o (.map (es ++ [(k, x, c)]) (c + 1)), bit o)
      | none => none
    | _ => none
    else none
  | _, _ => none

noncomputable def mapEntryF (t : TypeId) (m k : AV) : Option FActed :=
  match (G.ty t).d, m with
  | .map kt e, .mp o => if isKey k = true ∧ G.zcell e = true then match h.get o with
    | some (.map es c) => match findEntry (G.ty kt).d k es 0 with
      | some (some (i, v, born)) => some (.tup [v, .i .i64 born], h.set o (.map (es.set i (k, v, born)) c), bit o)
      | some none => some (.tup [(G.ty e).zero, .i .i64 c], h.set o (.map (es ++ [(k, (G.ty e).zero, c)]) (c + 1)), bit o)
      | none => none
    | _ => none
    else none
  | _, _ => none

noncomputable def entryStoreF (m st x : AV) : Option FActed :=
  match m, st with
  | .mp o, .i _ born => if x.held = true then match h.get o with
    | some (.map es c) => match findBorn born es 0 with
      | some (i, k, bn) => some (.un, h.set o (.map (es.set i (k, x, bn)) c), bit o)
      | none => none
    | _ => none
    else none
  | _, _ => none

noncomputable def srcF (e xt : TypeId) (x : AV) : Option (List AV × Nat) :=
  match (G.ty xt).d, x with
  | .int _, .i _ n => if 0 ≤ n ∧ n * ((G.ty e).bytes + 1) ≤ 1000000000 ∧ G.zcell e = true then some (repl n.toNat (G.zc e), n.toNat) else none
  | .str, .s c => if G.size e = 1 then some (bytesOf c, c.length) else none
  | .slice _, x => sliceCellsF h (G.size e) x
  | _, _ => none

noncomputable def appendF (st xt : TypeId) (d x : AV) : Option FActed :=
  match (G.ty st).d with
  | .slice e => match srcF G h e xt x with
    | some (xs, n) =>
      if xs.length = n * G.size e ∧ 0 < G.size e ∧ xs.all AV.cell = true ∧ G.zcell e = true then
        if n = 0 then (if (sliceLen d).isSome then some (d, h, 0) else none)
        else match d with
          | .sl cs len k => if k.roomless = true ∧ cs.length = len * G.size e ∧ cs.all AV.cell = true ∧ (len + n) * ((G.ty e).bytes + 1) ≤ 1000000000 then
              (bif h.room then some (.bsl h.n (G.size e) (len + n) 0 (len + n), h.push (.buf ⟨G.size e, e, false⟩ (cs ++ xs) (len + n) 0), 0) else none) else none
          | .bsl o ez ver off len => match h.get o with
            | some (.buf ez' cs v f) => if v = ver ∧ off = 0 ∧ len = ver ∧ ez = G.size e ∧ ez'.n = G.size e ∧ ez'.t = e ∧ (len + n) * ((G.ty e).bytes + 1) ≤ 1000000000 then
                some (.bsl o ez (len + n) 0 (len + n), h.set o (.buf ez' (cs ++ xs) (len + n) f), bit o) else none
            | _ => none
          | _ => none
      else none
    | none => none
  | _ => none

noncomputable def copyF (dt xt : TypeId) (d x : AV) : Option FActed :=
  match (G.ty dt).d with
  | .slice e => match (match (G.ty xt).d, x with | .int _, _ => none | _, _ => srcF G h e xt x), sliceLen d with
    | some (xs, n), some dn =>
      if xs.length = n * G.size e ∧ 0 < G.size e ∧ xs.all AV.cell = true then
        if min n dn = 0 then some (.i .i64 0, h, 0) else
        match writeF h d.row (xs.take (min n dn * G.size e)) with
        | some (h', m) => some (.i .i64 (min n dn : Nat), h', m)
        | none => none
      else none
    | _, _ => none
  | _ => none

noncomputable def deleteF (t : TypeId) (m k : AV) : Option FActed :=
  if isKey k then match (G.ty t).d, m with
    | .map .., .nilm => some (.tup [], h, 0)
    | .map kt _, .mp o => match h.get o with
      | some (.map es c) => match findEntry (G.ty kt).d k es 0 with
        | some (some (i, _, _)) => some (.tup [], h.set o (.map (es.eraseIdx i) c), bit o)
        | some none => some (.tup [], h.set o (.map es c), bit o)
        | none => none
      | _ => none
    | _, _ => none
  else none

noncomputable def clearF (t : TypeId) (m : AV) : Option FActed :=
  match (G.ty t).d, m with
  | .map .., .mp o => match h.get o with
    | some (.map _ c) => some (.tup [], h.set o (.map [] c), bit o)
    | _ => none
  | _, _ => none

noncomputable def boxF (t : TypeId) (v : AV) : Option FActed :=
  if v.cells.all AV.cell = true then (bif h.room then some (.ptr h.n 0, h.push (.box t v.cells), 0) else none) else none

noncomputable def buildSliceF (t : TypeId) (n : Nat) (parts : List (Nat × AV)) : Option FActed :=
  match (G.ty t).d with
  | .slice e => if G.zcell e = true ∧ n * G.size e ≤ 16777216 then
      (fillAt (fun i => some (i * G.size e, G.size e)) parts (repl n (G.zc e))).map fun cs => (.sl cs n .full, h, 0)
    else none
  | _ => none

noncomputable def unsafeStringF (pt : TypeId) (p n : AV) : Option FActed :=
  match n with
  | .i .i64 n => if n = 0 then (match p with | .nilp | .bp .. => some (.s [], h, 0) | _ => none) else
    match (G.ty pt).d, p with
    | .ptr u, .bp o ver 0 => match h.get o with
      | some (.buf e cs v f) => if v = ver ∧ e.t = u ∧ e.n = 1 ∧ e.m = false ∧ G.size u = 1 ∧ 0 < n ∧ n.toNat ≤ cs.length ∧ n.toNat ≤ 1000000000000 ∧ (cs.take n.toNat).all AV.isByte = true then
          match toBytes (cs.take n.toNat) with
          | some s => some (.s s, h.set o (.buf e cs v (max f n.toNat)), bit o)
          | none => none
        else none
      | _ => none
    | _, _ => none
  | _ => none

noncomputable def actF (ev : Operand → AV) (o : Oper) : Option FActed :=
  match o.op with
  | .buildSlice t n ps => buildSliceF G h t n (ps.toList.map fun p => (p.1, ev p.2))
  | .alloc t => boxF h t (G.ty t).zero
  | .box t x => boxF h t (ev x)
  | .store t a x => storeF G h t (ev a) (ev x)
  | .makeMap _ none => bif h.room then some (.mp h.n, h.push (.map [] 0), 0) else none
  | .makeSlice t l c => makeSliceF G h t (ev l) (ev c)
  | .convert src dst x => convF G h src dst (ev x)
  | .mapUpdate t m k x => mapSetF G h t (ev m) (ev k) (ev x)
  | .insert t m k x => mapSetF G h t (ev m) (ev k) (ev x)
  | .mapEntry t m k => mapEntryF G h t (ev m) (ev k)
  | .entryStore _ m st x => entryStoreF h (ev m) (ev st) (ev x)
  | .call c => match c.callee with
    | .builtin b => match b, c.argTypes.toList, c.args.toList with
      | .append, [st, xt], [d, x] => appendF G h st xt (ev d) (ev x)
      | .copy, [dt, xt], [d, x] => copyF G h dt xt (ev d) (ev x)
      | .delete, t :: _, [m, k] => deleteF G h t (ev m) (ev k)
      | .clear, t :: _, [m] => clearF G h t (ev m)
      | .unsafeString, [pt, _], [p, n] => unsafeStringF G h pt (ev p) (ev n)
      | _, _, _ => none
    | _ => none
  | _ => none
end

noncomputable def freezeLF (fz : H → AV → Option FActed) (l : List AV) : H → Option (List AV × H × Nat) :=
  List.rec (fun h => some ([], h, 0)) (fun x _ ih h => match fz h x with
    | some (x, h, m) => match ih h with
      | some (r, h, m') => some (x :: r, h, Nat.lor m m')
      | none => none
    | none => none) l

noncomputable def freezeCF (fz : H → AV → Option FActed) (h : H) (cs : List AV) : Option (List AV × H × Nat) :=
  bif allB AV.plain cs then some (cs, h, 0) else freezeLF fz cs h

noncomputable def freezeF : Nat → H → AV → Option FActed
  | 0, _, _ => none
  | n + 1, h, x => match x with
    | .agg cs => match (bif Nat.blt 0 n && allB AV.plain cs then some (cs, h, 0) else freezeLF (freezeF n) cs h) with | some (cs, h, m) => some (.agg cs, h, m) | none => none
    | .tup cs => match freezeLF (freezeF n) cs h with | some (cs, h, m) => some (.tup cs, h, m) | none => none
    | .bsl o ez ver off len => match h.get o with
      | some (.buf e cs v _) => if v = ver ∧ ez = e.n then
          match freezeCF (freezeF n) h cs with
          | some (cs', h, m) => match h.get o with
            | some (.buf e' _ v' _) => if e' = e ∧ v' = v ∧ cs'.all AV.cell = true then
               match cutO (len * e.n) off cs' with
               | some q => some (.sl q len .any, h.set o (.buf e cs' v cs'.length), Nat.lor (bit o) m)
               | none => none
               else none
            | _ => none
          | none => none
        else none
      | _ => none
    | x => some (x, h, 0)

abbrev FSt := T AV × H × Nat
inductive FOut where | normal (s : FSt) | exit (id : Nat) (s : FSt) | ret (s : FSt)
abbrev FCall := FuncId → List AV → H → Option FActed

section
variable (G : Prg) (nt dep : Nat)
noncomputable def fev (env : T AV) (x : Operand) : AV := match x with
  | .tmp t => bif Nat.blt t nt then env.get .un (pth dep t) else .un
  | .const v => ofVal v
  | .global g => .gp g
  | .func f => .fn f []

noncomputable def stepF (call : FCall) (o : Oper) (env : T AV) (h : H) : Option FActed :=
  match quietF G h (fev nt dep env) o with
  | some v => some (v, h, 0)
  | none => match actF G h (fev nt dep env) o with
    | some r => some r
    | none => match o.op with
      | .call c => match c.callee with
        | .value f => match fev nt dep env f with
          | .fn f cap => call f (c.args.toList.map (fev nt dep env) ++ cap) h
          | _ => none
        | _ => none
      | _ => none

noncomputable def wantedF (o : Oper) (ops : Array Oper) (env : T AV) : Option Bool :=
  match o.guard with
  | none => some true
  | some (j, want) => match nth ops.toList j with
    | some o' => match o'.dst with
      | some d => bif Nat.blt d nt then (match env.get .un (pth dep d) with | .b x => some (x == want) | .any => none | _ => some false) else some false
      | none => some false
    | none => some false

noncomputable def putF (env : T AV) (dst : Option Tmp) (v : AV) : T AV := match dst with | some d => bif Nat.blt d nt then env.set v (pth dep d) else env | none => env

noncomputable def opsF (call : FCall) (all : Array Oper) (l : List Oper) : FSt → Option FSt :=
  List.rec (fun st => some st) (fun o _ ih st => match wantedF nt dep o all st.1 with
    | none => none
    | some false => ih (putF nt dep st.1 o.dst .un, st.2)
    | some true => match stepF G nt dep call o st.1 st.2.1 with
      | some (v, h, m) => ih (putF nt dep st.1 o.dst v, h, Nat.lor m st.2.2)
      | none => none) l

/-! ### Regions whose order is open -/
noncomputable def traceF (call : FCall) (all : Array Oper) (l : List Oper) : T AV → H → Option (List FActed) :=
  List.rec (fun _ _ => some []) (fun o _ ih env h => match wantedF nt dep o all env with
    | none => none
    | some false => match ih (putF nt dep env o.dst .un) h with
      | some l => some ((.un, h, 0) :: l)
      | none => none
    | some true => match stepF G nt dep call o env h with
      | some (v, h', m) => match ih (putF nt dep env o.dst v) h' with
        | some l => some ((v, h', m) :: l)
        | none => none
      | none => none) l

noncomputable def staysF (h : H) (r : FActed) : Bool := Nat.beq r.2.2 0 && Nat.beq r.2.1.n h.n

noncomputable def chainsF (l : List FActed) : Nat → H → List Nat :=
  List.rec (fun _ _ => []) (fun r _ ih i h => bif staysF h r then ih (i + 1) r.2.1 else i :: ih (i + 1) r.2.1) l

noncomputable def heapAt (h : H) (rs : List FActed) (p : Nat) : H := match p with | 0 => h | p + 1 => match nth rs p with | some r => r.2.1 | none => h

noncomputable def chk1F (call : FCall) (all : Array Oper) (tab cs W : List Nat) (h : H) (rs : List FActed) (i : Nat) (o : Oper) (r : FActed) (env : T AV) : Bool :=
  (o.after.toList.all fun e => !Region.binds .any e || decide (e.on < i)) &&
  (match o.dst with | some d => (all.toList.take i).all fun o' => !(o'.dst == some d) | none => true) &&
  ((o.looksAt all).all fun d => (List.range all.size).all fun j => match all[j]? with
    | some o' => if o'.dst == some d then ((tab.getD i 0).testBit j && (!cs.contains j || W.all fun p => decide (j < p))) || (decide (i < j) && (tab.getD j 0).testBit i) else true
    | none => true) &&
  (if cs.contains i then isAlloc o || W.all fun p => p == i
   else W.all fun p => (cs.all fun c => !(decide (i ≤ c) && decide (c < p)) && !(decide (p ≤ c) && decide (c < i))) || pureOp o ||
    (match wantedF nt dep o all env with
     | some false => true
     | _ => match stepF G nt dep call o env (heapAt h rs p) with
      | some (v, h', m) => AV.eqb v r.1 && Nat.beq m 0 && Nat.beq h'.n (heapAt h rs p).n
      | none => false))

noncomputable def chkF (call : FCall) (all : Array Oper) (tab cs : List Nat) (h : H) (rs : List FActed) : Nat → List Oper → List FActed → T AV → Bool
  | i, o :: os, r :: l, env => chk1F G nt dep call all tab cs (win tab i all.size cs) h rs i o r env && chkF call all tab cs h rs (i + 1) os l (putF nt dep env o.dst r.1)
  | _, _, _, _ => true

noncomputable def putAllF (os : List Oper) : List FActed → T AV → T AV :=
  List.rec (fun _ env => env) (fun o _ ih rs env => match rs with | r :: rs => ih rs (putF nt dep env o.dst r.1) | [] => env) os

noncomputable def orF (rs : List FActed) (m : Nat) : Nat := List.rec m (fun r _ ih => Nat.lor r.2.2 ih) rs

noncomputable def drawnF (call : FCall) (ops : Array Oper) (st : FSt) : Option FSt :=
  match traceF G nt dep call ops ops.toList st.1 st.2.1 with
  | none => none
  | some rs => bif chkF G nt dep call ops (ancs ops.toList []) (chainsF rs 0 st.2.1) st.2.1 rs 0 ops.toList rs st.1 then
      some (putAllF nt dep ops.toList rs st.1, heapAt st.2.1 rs rs.length, orF rs st.2.2)
    else none

noncomputable def execF (call : FCall) (fuel : Nat) (c : Code) : FSt → Option FOut :=
  Code.rec (motive := fun _ => FSt → Option FOut)
    (fun st => some (.normal st))
    (fun _ ops draw st => match (bif draw then drawnF G nt dep call ops st else opsF G nt dep call ops ops.toList st) with | some st => some (.normal st) | none => none)
    (fun _ _ fa fb st => match fa st with | some (.normal st) => fb st | r => r)
    (fun c _ _ fa fb st => match fev nt dep st.1 c with | .b true => fa st | .b false => fb st | _ => none)
    (fun id _ fa st => match fa st with | some (.exit id' st) => bif Nat.beq id' id then some (.normal st) else some (.exit id' st) | r => r)
    (fun _ fa => Nat.rec (fun _ => none) (fun _ ih st => match fa st with | some (.normal st) => ih st | r => r) fuel)
    (fun _ _ _ _ _ _ _ => none)
    (fun id st => some (.exit id st))
    (fun _ _ _ => none)
    (fun _ _ => none)
    (fun _ _ => none)
    (fun st => some (.ret st))
    (fun _ _ => none)
    c

noncomputable def argsF (l : List AV) : Nat → T AV → T AV :=
  List.rec (fun _ t => t) (fun x _ ih i t => ih (i + 1) (t.set x (pth dep i))) l

noncomputable def resultsF (env : T AV) (h : H) (l : List ResultVar) : Option (List AV) :=
  List.rec (some []) (fun r _ ih => match r with
    | .tmp t => match ih with | some l => some ((bif Nat.blt t nt then env.get .un (pth dep t) else .un) :: l) | none => none
    | .cell a t => match readF h (bif Nat.blt a nt then env.get .un (pth dep a) else .un) (G.size t) with
      | some cs => match mkVar (G.isAgg t) cs with
        | some v => match ih with | some l => some (v :: l) | none => none
        | none => none
      | none => none) l

noncomputable def gcF (n0 : Nat) (r : AV) (h : H) (m : Nat) : H :=
  bif refs n0 r && (List.range n0).all (fun d => !m.testBit d || (match h.get d with | some o => refsO n0 o | none => true)) then (bif Nat.beq n0 0 then H.empty else ⟨n0, h.t⟩) else h

noncomputable def retF (f : FuncId) (fd : FnD) (n0 : Nat) (st : FSt) : Option FActed :=
  match resultsF G nt dep st.1 st.2.1 fd.results with
  | some rs => match (bif G.keepRet f then some (one rs, st.2.1, 0) else freezeF 7 st.2.1 (one rs)) with
    | some (r, h, m) => some (r, (bif G.gcOn f then gcF n0 r h (Nat.lor m st.2.2) else h), Nat.mod (Nat.lor m st.2.2) (Nat.pow 2 n0))
    | none => none
  | none => none
end

noncomputable def depOf (n : Nat) : Nat := Nat.log2 n + 1

abbrev FPrim := FuncId → Option (List AV → H → Option FActed)

noncomputable def bodyF (G : Prg) (call : FCall) (fuel : Nat) (f : FuncId) (fd : FnD) (args : List AV) (h : H) : Option FActed :=
  bif Nat.ble args.length fd.ntmps then
    match execF G fd.ntmps (depOf fd.ntmps) call fuel fd.body (argsF (depOf fd.ntmps) args 0 (.lf .un), h, 0) with
    | some (.normal st) => retF G fd.ntmps (depOf fd.ntmps) f fd h.n st
    | some (.ret st) => retF G fd.ntmps (depOf fd.ntmps) f fd h.n st
    | _ => none
  else none

noncomputable def callFF (G : Prg) (pr : FPrim) (fuel : Nat) (d : Nat) : FCall :=
  Nat.rec (fun _ _ _ => none) (fun _ call f args h =>
    match (bif G.keepArg f then some (args, h, 0) else freezeLF (freezeF 6) args h) with
    | none => none
    | some (args, h, m) => match pr f with
      | some p => match p args h with | some (r, h, m') => some (r, h, Nat.lor m m') | none => none
      | none => match G.fn f with
        | none => none
        | some fd => match bodyF G call fuel f fd args h with | some (r, h, m') => some (r, h, Nat.lor m m') | none => none) d
end Go.Adm
