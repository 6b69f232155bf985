/-
  Sx, part C: abstract code, how it is made of the model's code, and how it is stepped.
-/
import Derived.Test.YticecideodkcmaaSxB
namespace Sx
open Go

def bytesOf : List (List V) → Option (List UInt8)
  | [] => some []
  | [.int .u8 n] :: r => (bytesOf r).map (UInt8.ofNat n.toNat :: ·)
  | _ => none

def byteOk : List (List V) → Bool
  | [] => true
  | [.int .u8 n] :: r => decide (0 ≤ n ∧ n < 256) && byteOk r
  | _ => false

inductive Opd where
  | t (i : Nat)
  | c (v : V)
  deriving Inhabited

inductive AOp where
  | mv (x : Opd)
  | pick (c a b : Opd)
  | alloc (cells : List V)
  | box (x : Opd)
  | build (zero : List V) (parts : List (Nat × Nat × Opd))
  | bslice (len sz : Nat) (zero : List V) (parts : List (Nat × Opd))
  | load (x : Opd) (k : Option Nat)
  | store (a x : Opd) (n : Nat)
  | bin (op : BinOp) (x y : Opd)
  | eq (neg : Bool) (kind : Nat) (x y : Opd)          -- 0: bools, 1: pointers, 2: slices, 3: functions, 4: maps
  | eqG (neg : Bool) (ks : List Nat) (x y : Opd)            -- structs of plain fields
  | un (op : UnOp) (x : Opd)
  | convI (k : IntKind) (x : Opd)
  | convS (x : Opd)
  | b2s (x : Opd)
  | fld (x : Opd) (off : Nat) (k : Option Nat)
  | fldA (x : Opd) (off : Nat)
  | idxA (x i : Opd) (arr : Option Nat) (sz : Nat)
  | idxS (x i : Opd)
  | idxG (x i : Opd) (len sz : Nat) (agg : Bool)
  | slcS (x : Opd) (lo hi : Option Opd)
  | slc (x : Opd) (lo hi mx : Option Opd) (sz : Nat)
  | slcA (x : Opd) (lo hi : Option Opd) (n sz : Nat)
  | lenS (x : Opd)
  | lenL (x : Opd)
  | append (x y : Opd) (sz bytes : Nat) (str : Bool)
  | copy (x y : Opd) (sz : Nat)
  | clear (x : Opd) (zero : List V)
  | mks (n c : Opd) (zero : List V) (bytes : Nat)
  | mkf (f : FuncId) (caps : List Opd)
  | ext (x : Opd) (i : Nat)
  | nilck (x : Opd)
  | mm (max : Bool) (xs : List Opd)
  | allocT (cells : List V) (ty : TypeId)
  | cvU (x : Opd)
  | cvP (x : Opd) (ty : TypeId) (n : Nat)
  | appendB (x y : Opd) (bytes : Nat) (ty : TypeId)
  | usd (x : Opd)
  | ustr (x n : Opd) (ty : TypeId)
  | call (f : Opd) (args : List Opd)
  deriving Inhabited

structure AOper where
  dst : Option Nat
  g : Option (Nat × Bool)
  op : AOp
  deriving Inhabited

inductive AC where
  | skip
  | region (ops : List AOper)
  | drawn (ops : List (AOper × List Nat))
  | seq (a b : AC)
  | cond (c : Opd) (a b : AC)
  | block (id : Nat) (c : AC)
  | loop (c : AC)
  | exit (id : Nat)
  | ret
  | stop
  deriving Inhabited

def V.ofVal0 : Value → Option V
  | .bool b => some (.bool b)
  | .int k n => some (.int k n)
  | .string s => some (.str s.data.toList)
  | .pointer none => some .nilp
  | .slice none 0 0 => some .nils
  | .nilFunc => some .nilf
  | .map none => some .nilm
  | _ => none

def V.ofVal : Value → Option V
  | .agg cs => (cs.toList.mapM V.ofVal0).map .agg
  | .nilIface => some .any
  | v => V.ofVal0 v

def cOpd (N : Nat) : Operand → Option Opd
  | .tmp i => if i < N then some (.t i) else none
  | .const v => (V.ofVal v).map .c
  | .func f => some (.c (.fn f []))
  | .global _ => none

def cOpds (N : Nat) (xs : Array Operand) : Option (List Opd) := xs.toList.mapM (cOpd N)

def cOpt (N : Nat) : Option Operand → Option (Option Opd)
  | none => some none
  | some x => (cOpd N x).map some

/-- a type's size, and whether it is an aggregate -/
def cSize (P : Program) (t : TypeId) : Option (Nat × Bool) :=
  match P.info? t, P.underlying t with
  | some i, some (.struct _) => some (i.size, true)
  | some i, some (.array _ _) => some (i.size, true)
  | some i, some _ => if i.size = 1 then some (1, false) else none
  | _, _ => none

def cZero (P : Program) (t : TypeId) : Option (List V) :=
  match P.info? t with
  | some i => match i.zero with
    | some z => let l := z.cells.toList; if l.length = i.size then l.mapM V.ofVal0 else none
    | none => none
  | none => none

def cEq (P : Program) (t : TypeId) : Option Nat :=
  match P.underlying t with
  | some .bool => some 0
  | some (.pointer e) => if (P.info? e).isSome = true then some 1 else none
  | some (.slice _) => some 2
  | some (.func ..) => some 3
  | some (.map ..) => some 4
  | _ => none

/-- a struct of plain fields, one behind the other -/
def cFlat1 (P : Program) (x : Field × Nat) : Option Nat :=
  if x.1.name != "_" && x.1.offset == x.2 then
    match P.underlying x.1.type with
    | some .bool => some 0
    | some (.int _) => some 1
    | some .string => some 2
    | _ => none
  else none

def cFlat (P : Program) (t : TypeId) : Option (List Nat) :=
  match P.underlying t with
  | some (.struct fs) => if (!P.eqGuardType P.depth t && !P.stoodInHeld t) = true then fs.toList.zipIdx.mapM (cFlat1 P) else none
  | _ => none

def isNeq : BinOp → Bool
  | .neq => true
  | _ => false

def scalarOp : BinOp → Bool
  | .eql | .neq => false
  | _ => true

def cPart (P : Program) (N : Nat) (fs : Array Field) (zl : Nat) (x : Nat × Operand) : Option (Nat × Nat × Opd) :=
  match fs[x.1]? with
  | some f => match cSize P f.type, cOpd N x.2 with
    | some (n, _), some y => if f.offset + n ≤ zl then some (f.offset, n, y) else none
    | _, _ => none
  | none => none

def cPartA (N : Nat) (n zl : Nat) (x : Nat × Operand) : Option (Nat × Nat × Opd) :=
  match cOpd N x.2 with
  | some y => if x.1 * n + n ≤ zl then some (x.1 * n, n, y) else none
  | none => none

def cPartE (N : Nat) (len : Nat) (x : Nat × Operand) : Option (Nat × Opd) :=
  match cOpd N x.2 with
  | some y => if x.1 < len then some (x.1, y) else none
  | none => none

def cField (P : Program) (t : TypeId) (f : Nat) : Option (Field × Nat × Bool) :=
  match P.underlying t with
  | some (.struct fs) => match fs[f]? with
    | some f => match cSize P f.type with
      | some (n, b) => some (f, n, b)
      | none => none
    | none => none
  | _ => none

/-- a slice type's element: its size, its zero, its bytes -/
def cElem (P : Program) (t : TypeId) : Option (Nat × List V × Nat) :=
  match P.underlying t with
  | some (.slice e) => match cSize P e, cZero P e, P.info? e with
    | some (n, _), some z, some i => if 0 < n ∧ z.length = n ∧ i.size = n then some (n, z, i.bytes) else none
    | _, _, _ => none
  | _ => none

def isStr (P : Program) (t : TypeId) : Bool :=
  match P.underlying t with
  | some .string => true
  | _ => false

def isBld (P : Program) (t : TypeId) : Bool :=
  match P.underlying t with
  | some (.struct fs) => fs.toList.map (·.name) == ["addr", "buf"]
  | _ => false

def isNoEsc (P : Program) : Operand → Bool
  | .func f => match P.funcs[f]? with
    | some fn => fn.name == "internal/abi.NoEscape" && fn.origin == "" && fn.body.isNone
    | none => false
  | _ => false

def cBuiltin (P : Program) (b : Builtin) (ts : Array TypeId) (xs : List Opd) : Option AOp :=
  match b, xs, ts[0]? with
  | .len, [x], some t => if isStr P t then some (.lenS x) else match cElem P t with | some _ => some (.lenL x) | none => none
  | .append, [x, y], some t => match cElem P t, ts[1]? with
    | some (n, _, bytes), some u => if bytes = 0 then none else if isStr P u then (match P.underlying t with | some (.slice e) => if n = 1 then some (.appendB x y bytes e) else none | _ => none) else
      (match P.underlying u with | some (.slice _) => some (.append x y n bytes false) | _ => none)
    | _, _ => none
  | .copy, [x, y], some t => match cElem P t with | some (n, _, _) => some (.copy x y n) | none => none
  | .clear, [x], some t => match cElem P t with | some (_, z, _) => some (.clear x z) | none => none
  | .unsafeSliceData, [x], _ => some (.usd x)
  | .unsafeString, [x, y], some t => (match P.underlying t with | some (.pointer e) => if P.cellsOf e = 1 ∧ ts.size = 2 then some (.ustr x y e) else none | _ => none)
  | .min, x :: xs, _ => some (.mm false (x :: xs))
  | .max, x :: xs, _ => some (.mm true (x :: xs))
  | _, _, _ => none

def cOp (P : Program) (N : Nat) : Op → Option AOp
  | .move x => match cOpd N x with | some x => some (.mv x) | none => none
  | .assign x => match cOpd N x with | some x => some (.mv x) | none => none
  | .pick c a b => match cOpd N c, cOpd N a, cOpd N b with | some c, some a, some b => some (.pick c a b) | _, _, _ => none
  | .alloc t => match cZero P t with | some z => if isBld P t = true then some (.allocT z t) else some (.alloc z) | none => none
  | .box t x => match cSize P t, cOpd N x with | some _, some x => some (.box x) | _, _ => none
  | .build t parts => match cZero P t, P.underlying t with
    | some zero, some (.struct fs) => match parts.toList.mapM (cPart P N fs zero.length) with
      | some ps => if fs.toList.all (fun f => (P.info? f.type).isSome) then some (.build zero ps) else none
      | none => none
    | some zero, some (.array _ e) => match cSize P e with
      | some (n, _) => match parts.toList.mapM (cPartA N n zero.length) with
        | some ps => some (.build zero ps)
        | none => none
      | none => none
    | _, _ => none
  | .buildSlice t len parts => match cElem P t with
    | some (n, z, _) => if len * n ≤ 65536 then (match parts.toList.mapM (cPartE N len) with
      | some ps => some (.bslice len n z ps)
      | none => none) else none
    | none => none
  | .load t a => match cSize P t, cOpd N a with
    | some (n, agg), some a => some (.load a (if agg then some n else none))
    | _, _ => none
  | .store t a x => match cSize P t, cOpd N a, cOpd N x with
    | some (n, _), some a, some x => some (.store a x n)
    | _, _, _ => none
  | .binOp op t x y _ => match cOpd N x, cOpd N y with
    | some x, some y => if scalarOp op then some (.bin op x y) else (match P.underlying t with
      | some (.int _) | some .string => some (.bin op x y)
      | _ => match cEq P t with | some k => some (.eq (isNeq op) k x y) | none => match cFlat P t with | some n => some (.eqG (isNeq op) n x y) | none => none)
    | _, _ => none
  | .unOp op _ x => match cOpd N x with | some x => some (.un op x) | none => none
  | .convert s d x => match cOpd N x, P.underlying s, P.underlying d with
    | some x, some (.int _), some (.int k) => some (.convI k x)
    | some x, some .string, some .string => some (.convS x)
    | some x, some (.slice e), some .string => match P.underlying e with
      | some (.int .u8) => some (.b2s x)
      | _ => none
    | some x, some (.pointer t), some .unsafePointer => match P.info? t with
      | some j => if j.size = 0 then none else some (.cvU x)
      | none => none
    | some x, some .unsafePointer, some (.pointer u) => match P.info? u with
      | some j => if liesAt P P.depth u (j.size / P.cellsOf u) 0 u 1 = true then some (.cvP x u j.size) else none
      | none => none
    | _, _, _ => none
  | .field t x f => match cField P t f, cOpd N x with
    | some (f, n, agg), some x => some (.fld x f.offset (if agg then some n else none))
    | _, _ => none
  | .fieldAddr t x f => match cField P t f, cOpd N x with
    | some (f, n, _), some x => if 0 < n then some (.fldA x f.offset) else none
    | _, _ => none
  | .indexAddr t x i => match cOpd N x, cOpd N i, P.underlying t with
    | some x, some i, some (.array len e) => match cSize P e with
      | some (n, _) => if 1 < len then some (.idxA x i (some len) n) else none
      | none => none
    | some x, some i, some (.slice e) => match cSize P e with
      | some (n, _) => some (.idxA x i none n)
      | none => none
    | _, _, _ => none
  | .index t x i => match cOpd N x, cOpd N i, P.underlying t with
    | some x, some i, some (.array len e) => match cSize P e with
      | some (n, agg) => some (.idxG x i len n agg)
      | none => none
    | some x, some i, some .string => some (.idxS x i)
    | _, _, _ => none
  | .slice t x lo hi mx => match cOpd N x, cOpt N lo, cOpt N hi, cOpt N mx, P.underlying t with
    | some x, some lo, some hi, some none, some .string => some (.slcS x lo hi)
    | some x, some lo, some hi, some mx, some (.slice e) => match cSize P e with
      | some (n, _) => some (.slc x lo hi mx n)
      | none => none
    | some x, some lo, some hi, some none, some (.array n e) => match cSize P e with
      | some (s, _) => if 0 < s then some (.slcA x lo hi n s) else none
      | none => none
    | _, _, _, _, _ => none
  | .extract x i => match cOpd N x with | some x => some (.ext x i) | none => none
  | .nilCheck x => match cOpd N x with | some x => some (.nilck x) | none => none
  | .makeSlice t n c => match cOpd N n, cOpd N c, cElem P t with
    | some n, some c, some (_, z, bytes) => some (.mks n c z bytes)
    | _, _, _ => none
  | .makeFunc (.func f) first caps => if first.isEmpty then (match cOpds N caps with | some cs => some (.mkf f cs) | none => none) else none
  | .call { callee := .value f, args, .. } => if isNoEsc P f = true then (match cOpds N args with
    | some [x] => some (.mv x)
    | _ => none) else match cOpd N f, cOpds N args with
    | some f, some xs => some (.call f xs)
    | _, _ => none
  | .call { callee := .builtin b, args, argTypes } => match cOpds N args with
    | some xs => cBuiltin P b argTypes xs
    | none => none
  | _ => none

def cOper (P : Program) (N : Nat) (ops : Array Oper) (o : Oper) : Option AOper := do
  let g ← match o.guard with
    | none => pure none
    | some (j, b) => match (ops[j]?).bind (·.dst) with
      | some d => if d < N then pure (some (d, b)) else none
      | none => none
  let d ← match o.dst with
    | none => pure none
    | some d => if d < N then pure (some d) else none
  pure ⟨d, g, ← cOp P N o.op⟩

def depsOf (o : Oper) : List Nat := (o.after.toList.filter (Region.binds .any)).map (·.on)

def cDraw1 (P : Program) (N : Nat) (ops : Array Oper) (x : Oper × Nat) : Option (AOper × List Nat) :=
  match cOper P N ops x.1 with
  | some a => if (depsOf x.1).all (· < x.2) then some (a, depsOf x.1) else none
  | none => none

def cCode (P : Program) (N : Nat) : Code → Option AC
  | .skip => some .skip
  | .region _ ops false => match ops.toList.mapM (cOper P N ops) with
    | some l => some (.region l)
    | none => none
  | .region _ ops true => match ops.toList.zipIdx.mapM (cDraw1 P N ops) with
    | some l => some (.drawn l)
    | none => none
  | .seq a b => match cCode P N a, cCode P N b with
    | some a, some b => some (.seq a b)
    | _, _ => none
  | .cond c a b => match cOpd N c, cCode P N a, cCode P N b with
    | some c, some a, some b => some (.cond c a b)
    | _, _, _ => none
  | .block id c => match cCode P N c with
    | some c => some (.block id c)
    | none => none
  | .loop c => match cCode P N c with
    | some c => some (.loop c)
    | none => none
  | .exit id => some (.exit id)
  | .ret => some .ret
  | .refuse _ => some .stop
  | _ => none

/-! ### stepping -/

abbrev T := Nat → V
def upd (t : T) (i : Nat) (v : V) : T := fun j => if j = i then v else t j
theorem upd_same (t i v) : upd t i v i = v := by simp [upd]
theorem upd_ne (t i v j) (h : j ≠ i) : upd t i v j = t j := by simp [upd, h]

def Opd.ev (t : T) : Opd → V
  | .t i => t i
  | .c v => v

def V.cells : V → List V
  | .agg l => l
  | v => [v]

/-- a value of cells -/
def V.celled : V → Bool
  | .agg l => V.ones l
  | v => v.one

mutual
/-- it names no object -/
def V.pure : V → Bool
  | .ptr .. | .eptr .. | .sl .. | .mp _ => false
  | .fn _ cap => V.pures cap
  | .agg l => V.pures l
  | .tup l => V.pures l
  | .bool _ | .int .. | .str _ | .nilp | .nils | .nilf | .nilm | .zs | .rptr .. | .vs .. | .any | .bad => true
def V.pures : List V → Bool
  | [] => true
  | v :: l => v.pure && V.pures l
end

def putAt (cs : List V) (off : Nat) (vs : List V) : List V := cs.take off ++ (vs ++ cs.drop (off + vs.length))

def fillAt (t : T) (cs : List V) : List (Nat × Nat × Opd) → Option (List V)
  | [] => some cs
  | (off, n, x) :: r =>
    let vs := (x.ev t).cells
    if (x.ev t).celled && vs.length == n then fillAt t (putAt cs off vs) r else none

def fillEl (t : T) (n : Nat) (cs : List (List V)) : List (Nat × Opd) → Option (List (List V))
  | [] => some cs
  | (i, x) :: r =>
    let vs := (x.ev t).cells
    if (x.ev t).celled && vs.length == n then fillEl t n (cs.set i vs) r else none

def readAt (cs : List V) (off : Nat) : Option Nat → Option V
  | none => cs[off]?
  | some n => if off + n ≤ cs.length then some (.agg ((cs.drop off).take n)) else none

/-! what is computed bit by bit, under names (so that a proof may say what it comes to) -/
def iAnd (k : IntKind) (a b : Int) : Int := k.wrap (BitVec.ofInt k.bits a &&& BitVec.ofInt k.bits b).toNat
def iOr (k : IntKind) (a b : Int) : Int := k.wrap (BitVec.ofInt k.bits a ||| BitVec.ofInt k.bits b).toNat
def iXor (k : IntKind) (a b : Int) : Int := k.wrap (BitVec.ofInt k.bits a ^^^ BitVec.ofInt k.bits b).toNat
def iAndNot (k : IntKind) (a b : Int) : Int := k.wrap (BitVec.ofInt k.bits a &&& ~~~ BitVec.ofInt k.bits b).toNat
def iShl (k : IntKind) (a b : Int) : Int := k.wrap (a * 2 ^ (min b.toNat k.bits))
def iShr (k : IntKind) (a b : Int) : Int := a.fdiv (2 ^ (min b.toNat k.bits))

def aBin (op : BinOp) : V → V → Option V
  | .int k a, .int k' b =>
    match op with
    | .shl => if 0 ≤ b then some (.int k (iShl k a b)) else none
    | .shr => if 0 ≤ b then some (.int k (iShr k a b)) else none
    | op =>
      if k = k' then
        match op with
        | .add => some (.int k (k.wrap (a + b)))
        | .sub => some (.int k (k.wrap (a - b)))
        | .mul => some (.int k (k.wrap (a * b)))
        | .quo => if b = 0 then none else some (.int k (k.wrap (a.tdiv b)))
        | .rem => if b = 0 then none else some (.int k (a.tmod b))
        | .and => some (.int k (iAnd k a b))
        | .or => some (.int k (iOr k a b))
        | .xor => some (.int k (iXor k a b))
        | .andNot => some (.int k (iAndNot k a b))
        | .eql => some (.bool (decide (a = b)))
        | .neq => some (.bool (!decide (a = b)))
        | .lss => some (.bool (decide (a < b)))
        | .leq => some (.bool (decide (a ≤ b)))
        | .gtr => some (.bool (decide (b < a)))
        | .geq => some (.bool (decide (b ≤ a)))
        | _ => none
      else none
  | .str a, .str b =>
    match op with
    | .add => if a.length + b.length ≤ 4611686018427387904 then some (.str (a ++ b)) else none
    | .eql => some (.bool (decide (a = b)))
    | .neq => some (.bool (!decide (a = b)))
    | .lss => some (.bool (Op.bytesLess a b))
    | .leq => some (.bool (Op.bytesLess a b || decide (a = b)))
    | .gtr => some (.bool (!(Op.bytesLess a b || decide (a = b))))
    | .geq => some (.bool (!Op.bytesLess a b))
    | _ => none
  | _, _ => none

def aEq (kind : Nat) : V → V → Option Bool
  | .bool a, .bool b => if kind = 0 then some (a == b) else none
  | .nilp, .nilp => if kind = 1 then some true else none
  | .ptr i a, .ptr j b => if kind = 1 ∧ i = j ∧ a = b then some true else none
  | .nilp, .ptr .. | .nilp, .rptr .. | .ptr .., .nilp | .rptr .., .nilp => if kind = 1 then some false else none
  | .nils, .nils => if kind = 2 then some true else none
  | .vs (_ :: _) _, .nils | .nils, .vs (_ :: _) _ => if kind = 2 then some false else none
  | .nilf, .nilf => if kind = 3 then some true else none
  | .nilf, .fn .. | .fn .., .nilf => if kind = 3 then some false else none
  | .nilm, .nilm => if kind = 4 then some true else none
  | .nilm, .mp _ | .mp _, .nilm => if kind = 4 then some false else none
  | _, _ => none

def eq1 : Nat → V → V → Option Bool
  | 1, .int k a, .int k' b => if k = k' then some (decide (a = b)) else none
  | 0, .bool a, .bool b => some (a == b)
  | 2, .str a, .str b => some (decide (a = b))
  | _, _, _ => none

def eqCells : List Nat → List V → List V → Option Bool
  | [], [], [] => some true
  | k :: ks, x :: xs, y :: ys => match eq1 k x y, eqCells ks xs ys with
    | some p, some q => some (p && q)
    | _, _ => none
  | _, _, _ => none

def aUn (op : UnOp) : V → Option V
  | .int k n => match op with
    | .neg => some (.int k (k.wrap (0 - n)))
    | .xor => some (.int k (k.wrap (BitVec.ofInt k.bits (if k.signed then -1 else k.max) ^^^ BitVec.ofInt k.bits n).toNat))
    | _ => none
  | .bool b => match op with
    | .not => some (.bool (!b))
    | _ => none
  | _ => none

/-- the elements of a list -/
def elemsOf (h : List O) (sz : Nat) : V → Option (List (List V))
  | .nils => some []
  | .vs e s => if s = sz then some e else none
  | .sl id off len s _ => if s = sz then (match h[id]? with
    | some (.arr e s') => if s' = sz ∧ off + len ≤ e.length then some ((e.drop off).take len) else none
    | _ => none) else none
  | _ => none

def byteEls (l : List UInt8) : List (List V) := l.map fun b => [.int .u8 b.toNat]

/-- what an append puts behind -/
def srcOf (h : List O) (sz : Nat) (str : Bool) (v : V) : Option (List (List V)) :=
  match str, v with
  | true, .str l => some (byteEls l)
  | true, _ => none
  | false, v => elemsOf h sz v

def appendV (h : List O) (x y : V) (sz bytes : Nat) (str : Bool) : Option (V × List O) :=
  match srcOf h sz str y with
  | none => none
  | some es => match x with
    | .nils => if es.length * bytes ≤ 70368744177664 then some (.sl h.length 0 es.length sz none, h ++ [.arr es sz]) else none
    | .zs => if es.length * bytes ≤ 70368744177664 then some (.sl h.length 0 es.length sz none, h ++ [.arr es sz]) else none
    | .sl id off len s _ => if s = sz then (match h[id]? with
      | some (.arr old s') => if s' = sz ∧ off + len = old.length ∧ (len + es.length) * bytes ≤ 70368744177664 then
          some (.sl h.length 0 (len + es.length) sz none, h.set id .gone ++ [.arr (old.drop off ++ es) sz]) else none
      | _ => none) else none
    | _ => none

/-- bounds of a slice expression: from, to -/
def bound1 (t : T) (top dflt : Nat) : Option Opd → Option Nat
  | none => some dflt
  | some x => match x.ev t with
    | .int _ n => if 0 ≤ n ∧ n ≤ top then some n.toNat else none
    | _ => none

def bounds (t : T) (len : Nat) (lo hi : Option Opd) : Option (Nat × Nat) :=
  match bound1 t len len hi with
  | none => none
  | some h => match bound1 t h 0 lo with
    | none => none
    | some l => some (l, h)

def mmGo (mx : Bool) (k : IntKind) : Int → List V → Option Int
  | a, [] => some a
  | a, .int k' b :: r => if k = k' then mmGo mx k (if mx then (if a < b then b else a) else (if b < a then b else a)) r else none
  | _, _ => none

def aMM (mx : Bool) : List V → Option V
  | .int k a :: r => (mmGo mx k a r).map (.int k)
  | _ => none

/-- cells, so many at a time -/
def chunk (sz : Nat) : Nat → List V → List (List V)
  | 0, _ => []
  | n + 1, l => l.take sz :: chunk sz n (l.drop sz)

/-- what is known of an object's variables' type -/
def hasTy (h : List O) (id : Nat) (ty : TypeId) : Bool := h.any fun o => match o with | .ty i t _ => i == id && t == ty | _ => false
def hasTyN (h : List O) (id : Nat) (ty : TypeId) (n : Nat) : Bool := h.any fun o => match o with | .ty i t k => i == id && t == ty && k == some n | _ => false
def okTy (h : List O) (ty : TypeId) : V → Bool
  | .nils | .zs => true
  | .sl id off _ _ _ => off == 0 && hasTy h id ty
  | _ => false

def clearV (h : List O) (zero : List V) : V → Option (V × List O)
  | .nils => some (.any, h)
  | .sl id off len s _ => match h[id]? with
    | some (.arr es s') => if s = zero.length ∧ s' = s ∧ off + len ≤ es.length then some (.any, h.set id (.arr (es.take off ++ (List.replicate len zero ++ es.drop (off + len))) s)) else none
    | _ => none
  | _ => none

def opStep (t : T) (h : List O) : AOp → Option (V × List O)
  | .mv x => some (x.ev t, h)
  | .pick c a b => match c.ev t with
    | .bool v => some (if v = true then a.ev t else b.ev t, h)
    | _ => none
  | .alloc cells => some (.ptr h.length 0, h ++ [.row cells])
  | .box x => if (x.ev t).celled then some (.ptr h.length 0, h ++ [.row (x.ev t).cells]) else none
  | .build zero ps => match fillAt t zero ps with
    | some cs => some (.agg cs, h)
    | none => none
  | .bslice len sz zero ps => match fillEl t sz (List.replicate len zero) ps with
    | some es => if es.all V.pures then some (.sl h.length 0 len sz (some len), h ++ [.arr es sz]) else none
    | none => none
  | .load x k => match x.ev t with
    | .ptr id off => match h[id]? with
      | some (.row cs) => match readAt cs off k with | some v => some (v, h) | none => none
      | _ => none
    | .eptr id i sz off => match h[id]? with
      | some (.arr es s) => if s = sz then (match es[i]? with
        | some cs => match readAt cs off k with | some v => some (v, h) | none => none
        | none => none) else none
      | _ => none
    | .rptr cs off => match readAt cs off k with | some v => some (v, h) | none => none
    | _ => none
  | .store a x n =>
    let vs := (x.ev t).cells
    if (x.ev t).celled && vs.length == n then
      match a.ev t with
      | .ptr id off => match h[id]? with
        | some (.row cs) => if off + n ≤ cs.length then some (.any, h.set id (.row (putAt cs off vs))) else none
        | _ => none
      | .eptr id i sz off => match h[id]? with
        | some (.arr es s) => if s = sz ∧ V.pures vs then (match es[i]? with
          | some cs => if off + n ≤ cs.length then some (.any, h.set id (.arr (es.set i (putAt cs off vs)) sz)) else none
          | none => none) else none
        | _ => none
      | _ => none
    else none
  | .bin op x y => match aBin op (x.ev t) (y.ev t) with | some v => some (v, h) | none => none
  | .eq neg kind x y => match aEq kind (x.ev t) (y.ev t) with | some b => some (.bool (if neg = true then !b else b), h) | none => none
  | .eqG neg ks x y => match x.ev t, y.ev t with
    | .agg a, .agg b => match eqCells ks a b with | some r => some (.bool (if neg = true then !r else r), h) | none => none
    | _, _ => none
  | .un op x => match aUn op (x.ev t) with | some v => some (v, h) | none => none
  | .convI k x => match x.ev t with | .int _ n => some (.int k (k.wrap n), h) | _ => none
  | .convS x => match x.ev t with | .str l => some (.str l, h) | _ => none
  | .b2s x => match elemsOf h 1 (x.ev t) with
    | some es => match bytesOf es with | some l => some (.str l, h) | none => none
    | none => none
  | .fld x off k => match x.ev t with
    | .agg cs => match readAt cs off k with | some v => some (v, h) | none => none
    | _ => none
  | .fldA x off => match x.ev t with
    | .ptr id o => some (.ptr id (o + off), h)
    | .eptr id i sz o => some (.eptr id i sz (o + off), h)
    | .rptr cs o => some (.rptr cs (o + off), h)
    | _ => none
  | .idxA x i arr sz => match i.ev t with
    | .int _ n => match arr with
      | some len => if 0 ≤ n ∧ n < len then (match x.ev t with
        | .ptr id o => some (.ptr id (o + n.toNat * sz), h)
        | .eptr id j s o => some (.eptr id j s (o + n.toNat * sz), h)
        | .rptr cs o => some (.rptr cs (o + n.toNat * sz), h)
        | _ => none) else none
      | none => match x.ev t with
        | .vs es s => if s = sz ∧ 0 ≤ n then (match es[n.toNat]? with | some cs => some (.rptr cs 0, h) | none => none) else none
        | .sl id off len s _ => if s = sz ∧ 0 ≤ n ∧ n < len then some (.eptr id (off + n.toNat) sz 0, h) else none
        | _ => none
    | _ => none
  | .idxS x i => match i.ev t, x.ev t with
    | .int _ n, .str l => if 0 ≤ n then (match l[n.toNat]? with | some b => some (.int .u8 b.toNat, h) | none => none) else none
    | _, _ => none
  | .idxG x i len sz agg => match i.ev t, x.ev t with
    | .int _ n, .agg cs => if 0 ≤ n ∧ n < len then (match readAt cs (n.toNat * sz) (if agg then some sz else none) with | some v => some (v, h) | none => none) else none
    | _, _ => none
  | .slcS x lo hi => match x.ev t with
    | .str l => match bounds t l.length lo hi with
      | some (a, b) => some (.str ((l.take b).drop a), h)
      | none => none
    | _ => none
  | .slc x lo hi mx sz => match mx with
    | some _ => none
    | none => match x.ev t with
      | .vs es s => if s = sz then (match bounds t es.length lo hi with
        | some (a, b) => some (.vs ((es.take b).drop a) sz, h)
        | none => none) else none
      | .sl id off len s k => if s = sz then (match bounds t len lo hi with
        | some (a, b) => some (.sl id (off + a) (b - a) sz (k.map (· - a)), h)
        | none => none) else none
      | .nils => match bounds t 0 lo hi with
        | some _ => some (.nils, h)
        | none => none
      | _ => none
  | .slcA x lo hi n sz => match x.ev t with
    | .ptr id 0 => match bounds t n lo hi with
      | some (a, b) => match h[id]? with
        | some (.row cs) => if cs.length = n * sz ∧ V.pures cs ∧ V.ones cs then some (.sl id a (b - a) sz (some (n - a)), h.set id (.arr (chunk sz n cs) sz)) else none
        | _ => none
      | none => none
    | _ => none
  | .lenS x => match x.ev t with
    | .str l => some (.int .i64 l.length, h)
    | _ => none
  | .lenL x => match x.ev t with
    | .vs es _ => some (.int .i64 es.length, h)
    | .sl _ _ n _ _ => some (.int .i64 n, h)
    | .nils => some (.int .i64 0, h)
    | _ => none
  | .append x y sz bytes str => appendV h (x.ev t) (y.ev t) sz bytes str
  | .mks n c zero bytes => match n.ev t, c.ev t with
    | .int _ n, .int _ m => if 0 ≤ n ∧ n = m ∧ n * bytes ≤ 70368744177664 ∧ n ≤ 70368744177664 then
        some (.sl h.length 0 n.toNat zero.length (some n.toNat), h ++ [.arr (List.replicate n.toNat zero) zero.length]) else none
    | _, _ => none
  | .mkf f caps => some (.fn f (caps.map (Opd.ev t)), h)
  | .ext x i => match x.ev t with
    | .tup vs => match vs[i]? with | some v => some (v, h) | none => none
    | _ => none
  | .nilck x => match x.ev t with
    | .ptr id o => some (.ptr id o, h)
    | .eptr id i s o => some (.eptr id i s o, h)
    | .rptr c o => some (.rptr c o, h)
    | .fn f c => some (.fn f c, h)
    | _ => none
  | .mm mx xs => match aMM mx (xs.map (Opd.ev t)) with | some v => some (v, h) | none => none
  | .clear x zero => clearV h zero (x.ev t)
  | .allocT cells ty => some (.ptr h.length 0, h ++ [.row cells] ++ [.ty h.length ty (some cells.length)])
  | .cvU x => match x.ev t with
    | .ptr id o => match h[id]? with
      | some (.row cs) => if o < cs.length then some (.ptr id o, h) else none
      | _ => none
    | _ => none
  | .cvP x ty n => match x.ev t with
    | .ptr id 0 => match h[id]? with
      | some (.row _) => if hasTyN h id ty n = true then some (.ptr id 0, h) else none
      | _ => none
    | _ => none
  | .appendB x y bytes ty => if okTy h ty (x.ev t) = true then (match appendV h (x.ev t) (y.ev t) 1 bytes true with
    | some (v, h') => some (v, h' ++ [.ty h.length ty none])
    | none => none) else none
  | .usd x => match x.ev t with
    | .sl id off len sz _ => if sz = 1 ∧ 0 < len then some (.ptr id off, h) else none
    | _ => none
  | .ustr x n ty => match x.ev t, n.ev t with
    | .ptr id 0, .int .i64 m => match h[id]? with
      | some (.arr es 1) => if hasTy h id ty = true ∧ 0 < m ∧ m ≤ 9223372036854775807 ∧ m.toNat ≤ es.length ∧ byteOk (es.take m.toNat) = true then (match bytesOf (es.take m.toNat) with
        | some l => some (.str l, h.set id .gone)
        | none => none) else none
      | _ => none
    | _, _ => none
  | .copy .. | .call .. => none

def put (t : T) (d : Option Nat) (v : V) : T :=
  match d with
  | none => t
  | some d => upd t d v

inductive AItem where
  | code (c : AC)
  | ops (l : List AOper)
  | endB (id : Nat)
  | inLoop (c : AC)

structure Cfg where
  k : List AItem
  t : T
  h : List O

def unwind (id : Nat) : List AItem → Option (List AItem)
  | .endB j :: k => if j = id then some k else unwind id k
  | _ :: k => unwind id k
  | [] => none

inductive Br where
  | one (c : Cfg)
  | ite (p : Bool) (a b : Br)
  | stop

def opBr (t : T) (h : List O) (d : Option Nat) (o : AOp) (l : List AOper) (k : List AItem) : Br :=
  match opStep t h o with
  | some (v, h') => .one ⟨.ops l :: k, put t d v, h'⟩
  | none => .stop

def step1 : Cfg → Br
  | ⟨.code .skip :: k, t, h⟩ => .one ⟨k, t, h⟩
  | ⟨.code (.seq a b) :: k, t, h⟩ => .one ⟨.code a :: .code b :: k, t, h⟩
  | ⟨.code (.region l) :: k, t, h⟩ => .one ⟨.ops l :: k, t, h⟩
  | ⟨.code (.block id c) :: k, t, h⟩ => .one ⟨.code c :: .endB id :: k, t, h⟩
  | ⟨.code (.exit id) :: k, t, h⟩ => match unwind id k with
    | some k' => .one ⟨k', t, h⟩
    | none => .stop
  | ⟨.code (.cond c a b) :: k, t, h⟩ => match c.ev t with
    | .bool v => .ite v (.one ⟨.code a :: k, t, h⟩) (.one ⟨.code b :: k, t, h⟩)
    | _ => .stop
  | ⟨.endB _ :: k, t, h⟩ => .one ⟨k, t, h⟩
  | ⟨.ops [] :: k, t, h⟩ => .one ⟨k, t, h⟩
  | ⟨.ops (⟨d, none, o⟩ :: l) :: k, t, h⟩ => opBr t h d o l k
  | ⟨.ops (⟨d, some (j, want), o⟩ :: l) :: k, t, h⟩ => match t j with
    | .bool v => .ite (v == want) (opBr t h d o l k) (.one ⟨.ops l :: k, put t d (.tup []), h⟩)
    | .tup [] => .one ⟨.ops l :: k, put t d (.tup []), h⟩
    | _ => .stop
  | _ => .stop

def exec : Nat → Cfg → Cfg
  | 0, c => c
  | n + 1, c => match step1 c with
    | .one c' => exec n c'
    | .ite p a b => if p = true then (match a with | .one c' => exec n c' | _ => c) else (match b with | .one c' => exec n c' | _ => c)
    | .stop => c

end Sx
