/-
  A second machine for Go code: values are lists and numbers, memory is a few numbered blocks, and the run is a function. XAmSound shows that what it comes to, the model comes to.
-/
import Derived.Calls
import Derived.Scope
import Derived.Laws.AppendOwn
import Derived.KernelRfl
set_option linter.unusedVariables false
set_option linter.unusedSimpArgs false
namespace Go.Am
open Go

inductive AV where
  | undef
  | skp
  | bool (b : Bool)
  | int (k : IntKind) (n : Int)
  | lst (xs : List (List AV))
  | nil
  | sl (id off n sz : Nat)
  | pp (cs : List AV)
  | ptr (id off : Nat)
  | agg (cs : List AV)
  | tup (vs : List AV)
  | fn (f : FuncId) (caps : List AV)
  | nilfn
  | nilmp
  | mp (id : Nat)
  | mv (ks : List Int) (vs : List AV)
  | fresh (sz : Nat) (flat : List AV)
  | own (v : AV)
  deriving Inhabited

def AV.cells : AV → List AV
  | .agg cs => cs
  | v => [v]

/-- A value that one cell of memory can hold. -/
def AV.isCell : AV → Bool
  | .bool _ | .int .. | .lst _ | .nil | .sl .. | .pp _ | .ptr .. | .fn .. | .nilfn | .nilmp | .mp _ | .mv .. => true
  | _ => false

mutual
/-- A value that names no block. -/
def AV.isPure : AV → Bool
  | .bool _ | .int .. | .nil | .nilfn | .nilmp => true
  | .lst xs => AV.pureLL xs
  | .pp cs => AV.pureL cs
  | .agg cs => AV.pureL cs
  | .tup cs => AV.pureL cs
  | .fn _ cs => AV.pureL cs
  | .mv _ vs => AV.pureL vs
  | _ => false
def AV.pureL : List AV → Bool
  | [] => true
  | v :: vs => v.isPure && AV.pureL vs
def AV.pureLL : List (List AV) → Bool
  | [] => true
  | v :: vs => AV.pureL v && AV.pureLL vs
end

/-- Numbers and bools, alone or in structs and tuples. -/
def AV.isNum : AV → Bool
  | .bool _ | .int .. => true
  | _ => false
def AV.isFlat : AV → Bool
  | .agg cs => cs.all AV.isNum
  | v => v.isNum
def AV.isScalar : AV → Bool
  | .tup cs => cs.all AV.isFlat
  | v => v.isFlat

/-- A result that names nothing of the caller's: numbers, and lists that were made for it, through and through. -/
def AV.isNum0 : AV → Bool
  | .nil => true
  | v => v.isNum
def AV.loosN : Nat → AV → Bool
  | k + 1, .fresh _ flat => flat.all (AV.loosN k)
  | _, v => v.isNum0
def AV.isOwn : AV → Bool
  | .own _ => true
  | _ => false
def AV.loose : AV → Bool
  | .own (.agg cs) => cs.all (AV.loosN 3)
  | .own v => AV.loosN 4 v
  | v => v.isFlat
def AV.isFree : AV → Bool
  | .tup vs => vs.any AV.isOwn && vs.all AV.loose
  | .own v => AV.loose (.own v)
  | _ => false

inductive Blk where
  | cells (fz row : Bool) (flat : List AV)
  | mp (fz : Bool) (es : List (Int × AV))
  | it

structure Hp where
  nx : Nat
  bl : Nat → Option Blk

def Hp.empty : Hp := { nx := 0, bl := fun _ => none }
def Hp.put (h : Hp) (id : Nat) (b : Option Blk) : Hp := { h with bl := fun i => if i = id then b else h.bl i }
def Hp.alloc (h : Hp) (b : Blk) : Hp := { nx := h.nx + 1, bl := fun i => if i = h.nx then some b else h.bl i }

abbrev St := Nat → AV
def upd (st : St) (d : Nat) (v : AV) : St := fun i => if i = d then v else st i
def updO (st : St) (d : Option Nat) (v : AV) : St := match d with | some d => upd st d v | none => st

def avc0 : Value → AV
  | .bool b => .bool b
  | .int k n => .int k n
  | .slice none 0 0 => .nil
  | .nilFunc => .nilfn
  | .map none => .nilmp
  | _ => .undef
def avc : Value → AV
  | .agg cs => .agg (cs.toList.map avc0)
  | v => avc0 v

def avk (v : Value) : AV := if (avc v).cells.all AV.isCell then avc v else .undef
def ev (st : St) : Operand → AV
  | .tmp t => st t
  | .const v => avk v
  | .global _ => .undef
  | .func f => .fn f []

/-! ### Types -/
def isz (P : Program) (t : TypeId) : Option Nat := (P.info? t).map (·.size)
def ibytes (P : Program) (t : TypeId) : Option Nat := (P.info? t).map (·.bytes)
def izero (P : Program) (t : TypeId) : Option AV := ((P.info? t).bind (·.zero)).map avc
def aggD : TypeDesc → Bool
  | .struct _ => true
  | .array _ _ => true
  | _ => false

/-- A part of a run of cells, as a value of a type. -/
def partA (P : Program) (t : TypeId) (cs : List AV) (off : Nat) : Option AV :=
  match P.underlying t, isz P t with
  | some d, some n => if aggD d then (if off + n ≤ cs.length then some (.agg ((cs.drop off).take n)) else none) else cs[off]?
  | _, _ => none

/-- Cells cut into elements. -/
def chunkF (sz : Nat) : Nat → List AV → List (List AV)
  | 0, _ => []
  | n + 1, l => match l with
    | [] => []
    | x :: xs => (x :: xs).take sz :: chunkF sz n ((x :: xs).drop sz)
def chunk (sz : Nat) (l : List AV) : List (List AV) := if sz = 0 then [] else chunkF sz l.length l

def setL (l : List AV) (off : Nat) : List AV → List AV
  | [] => l
  | c :: cs => setL (l.set off c) (off + 1) cs

def fillA (place : Nat → Option (Nat × Nat)) (cells : List AV) : List (Nat × AV) → Option (List AV)
  | [] => some cells
  | (i, v) :: rest =>
    match place i with
    | none => none
    | some (off, size) =>
      if v.cells.length = size ∧ off + size ≤ cells.length then fillA place (setL cells off v.cells) rest else none

/-! ### Numbers -/
def binI (op : BinOp) (k : IntKind) (a b : Int) : Option AV :=
  match op with
  | .add => some (.int k (k.wrap (a + b)))
  | .sub => some (.int k (k.wrap (a - b)))
  | .mul => some (.int k (k.wrap (a * b)))
  | .quo => if b = 0 then none else some (.int k (k.wrap (a.tdiv b)))
  | .rem => if b = 0 then none else some (.int k (a.tmod b))
  | .and => some (.int k (k.wrap (BitVec.ofInt k.bits a &&& BitVec.ofInt k.bits b).toNat))
  | .or => some (.int k (k.wrap (BitVec.ofInt k.bits a ||| BitVec.ofInt k.bits b).toNat))
  | .xor => some (.int k (k.wrap (BitVec.ofInt k.bits a ^^^ BitVec.ofInt k.bits b).toNat))
  | .andNot => some (.int k (k.wrap (BitVec.ofInt k.bits a &&& ~~~ BitVec.ofInt k.bits b).toNat))
  | .eql => some (.bool (a == b))
  | .neq => some (.bool (a != b))
  | .lss => some (.bool (decide (a < b)))
  | .leq => some (.bool (decide (a ≤ b)))
  | .gtr => some (.bool (decide (a > b)))
  | .geq => some (.bool (decide (a ≥ b)))
  | .shl => if b < 0 then none else some (.int k (k.wrap (a * 2 ^ (min b.toNat k.bits))))
  | .shr => if b < 0 then none else some (.int k (a.fdiv (2 ^ (min b.toNat k.bits))))

/-- Two cells with whole numbers of one kind alike. -/
def eqCell (x y : Option AV) : Option Bool :=
  match x, y with
  | some (.int k a), some (.int j b) => if k = j then some (a == b) else none
  | _, _ => none
/-- Two arrays of n whole numbers alike. -/
def eqArr (xs ys : List AV) : (left at_ : Nat) → Option Bool
  | 0, _ => some true
  | n + 1, i => (eqCell xs[i]? ys[i]?).bind fun b => (eqArr xs ys n (i + 1)).map fun r => b && r
/-- Two structs of whole numbers alike, field by field. -/
def eqFlds (P : Program) (xs ys : List AV) : List Field → Option Bool
  | [] => some true
  | f :: fs => match P.underlying f.type with
    | some (.int _) => if f.name = "_" then none else (eqCell xs[f.offset]? ys[f.offset]?).bind fun b => (eqFlds P xs ys fs).map fun r => b && r
    | _ => none
def eqAgg (P : Program) (t : TypeId) (xs ys : List AV) : Option Bool :=
  if P.eqGuardType P.depth t then none else
  match P.underlying t with
  | some (.array n e) => match P.underlying e, isz P e with
    | some (.int _), some 1 => eqArr xs ys n 0
    | _, _ => none
  | some (.struct fs) => if P.stoodInHeld t then none else eqFlds P xs ys fs.toList
  | _ => none

def isEq : BinOp → Option Bool
  | .eql => some true
  | .neq => some false
  | _ => none
/-- '==' and '!=' where the operands are no numbers. -/
def eqA (P : Program) (t : TypeId) (x y : AV) : Option Bool :=
  match P.underlying t, x, y with
  | some .bool, .bool a, .bool b => some (a == b)
  | some (.slice _), .nil, .nil => some true
  | some (.slice _), .lst (_ :: _), .nil => some false
  | some (.slice _), .sl _ _ (_ + 1) _, .nil => some false
  | _, .agg xs, .agg ys => eqAgg P t xs ys
  | _, _, _ => none
def isShift : BinOp → Bool
  | .shl | .shr => true
  | _ => false
def binA (P : Program) (op : BinOp) (t : TypeId) (x y : AV) : Option AV :=
  match x, y with
  | .int k a, .int j b => if isShift op then binI op k a b else if k = j then binI op k a b else none
  | x, y => (isEq op).bind fun e => (eqA P t x y).map fun r => .bool (r == e)

def unA (op : UnOp) (x : AV) : Option AV :=
  match op, x with
  | .neg, .int k n => some (.int k (k.wrap (0 - n)))
  | .xor, .int k n => binI .xor k (if k.signed then -1 else k.max) n
  | .not, .bool b => some (.bool !b)
  | _, _ => none

def minA : List AV → Option AV
  | [] => none
  | x :: xs => xs.foldlM (fun a b => match a, b with | .int k m, .int _ n => some (.int k (if n < m then n else m)) | _, _ => none) x
def maxA : List AV → Option AV
  | [] => none
  | x :: xs => xs.foldlM (fun a b => match a, b with | .int k m, .int _ n => some (.int k (if m < n then n else m)) | _, _ => none) x

/-! ### Memory -/
def lims (lim : Option Nat) (id : Nat) : Bool := match lim with | none => true | some l => decide (id < l)
def rd (h : Hp) (lim : Option Nat) (id : Nat) : Option (List AV) :=
  match h.bl id with
  | some (.cells _ _ flat) => if lims lim id then some flat else none
  | _ => none
/-- The cells of a slice. -/
def cellsOf (h : Hp) (lim : Option Nat) : AV → Option (List AV)
  | .nil => some []
  | .lst xs => some xs.flatten
  | .sl id off n sz => (rd h lim id).bind fun flat => if off + n * sz ≤ flat.length then some ((flat.drop off).take (n * sz)) else none
  | _ => none
def lenA : AV → Option Nat
  | .nil => some 0
  | .lst xs => some xs.length
  | .sl _ _ n _ => some n
  | _ => none

/-- What a block becomes that nobody will write any more. -/
def sealV0 (h : Hp) (v : AV) : Option (AV × Hp) :=
  if v.isPure then some ((match v with | .nil => .lst [] | v => v), h) else
  match v with
  | .sl id off n sz =>
    match h.bl id with
    | some (.cells fz row flat) =>
      if AV.pureL flat ∧ off + n * sz ≤ flat.length ∧ 0 < sz then some (.lst (chunk sz ((flat.drop off).take (n * sz))), h.put id (some (.cells true row flat))) else none
    | _ => none
  | .ptr id off =>
    match h.bl id with
    | some (.cells fz row flat) =>
      if AV.pureL flat ∧ off ≤ flat.length then some (.pp (flat.drop off), h.put id (some (.cells true row flat))) else none
    | _ => none
  | .mp id =>
    match h.bl id with
    | some (.mp fz es) =>
      if AV.pureL (es.map (·.2)) then some (.mv (es.map (·.1)) (es.map (·.2)), h.put id (some (.mp true es))) else none
    | _ => none
  | _ => none
def sealCells0 (h : Hp) : List AV → Option (List AV × Hp)
  | [] => some ([], h)
  | v :: vs => (sealV0 h v).bind fun (v', h') => (sealCells0 h' vs).map fun (vs', h'') => (v' :: vs', h'')
/-- The same of a row of slices, the slices first. -/
def sealV (h : Hp) (v : AV) : Option (AV × Hp) :=
  match v with
  | .sl id off n sz =>
    match h.bl id with
    | some (.cells _ _ flat) =>
      if AV.pureL flat then sealV0 h v else
      (sealCells0 h flat).bind fun (flat', h1) =>
        match h1.bl id with
        | some (.cells _ row flat1) =>
          if off + n * sz ≤ flat'.length ∧ 0 < sz then some (.lst (chunk sz ((flat'.drop off).take (n * sz))), h1.put id (some (.cells true row flat1))) else none
        | _ => none
    | _ => none
  | v => sealV0 h v
def sealCells (h : Hp) : List AV → Option (List AV × Hp)
  | [] => some ([], h)
  | v :: vs => (sealV h v).bind fun (v', h') => (sealCells h' vs).map fun (vs', h'') => (v' :: vs', h'')
/-- The same of an aggregate or a closure, part by part. -/
def sealA (h : Hp) (v : AV) : Option (AV × Hp) :=
  match v with
  | .agg cs => if v.isPure then some (v, h) else (sealCells h cs).map fun (cs', h') => (.agg cs', h')
  | .fn f cs => if v.isPure then some (v, h) else (sealCells h cs).map fun (cs', h') => (.fn f cs', h')
  | v => sealV h v
def sealArgs (h : Hp) : List AV → Option (List AV × Hp)
  | [] => some ([], h)
  | v :: vs => (sealA h v).bind fun (v', h') => (sealArgs h' vs).map fun (vs', h'') => (v' :: vs', h'')

def loadA (P : Program) (t : TypeId) (cs : List AV) (off : Nat) : Option AV := partA P t cs off

def findK (k : Int) : List (Int × AV) → Option AV
  | [] => none
  | (j, v) :: es => if k = j then some v else findK k es
def putK (k : Int) (v : AV) : List (Int × AV) → List (Int × AV)
  | [] => [(k, v)]
  | (j, u) :: es => if k = j then (k, v) :: es else (j, u) :: putK k v es

def boundA (x : AV) (y : Nat) : Option Nat :=
  match x with
  | .int _ i => if 0 ≤ i ∧ i ≤ y then some i.toNat else none
  | _ => none
def loA (ρ : Operand → AV) (lo : Option Operand) (h : Nat) : Option Nat := match lo with | some x => boundA (ρ x) h | none => some 0
def hiA (ρ : Operand → AV) (hi : Option Operand) (n : Nat) : Option Nat := match hi with | some x => boundA (ρ x) n | none => some n

def idxA (x : AV) (n : Nat) : Option Nat :=
  match x with
  | .int _ i => if 0 ≤ i ∧ i < n then some i.toNat else none
  | _ => none

/-- What an operation that leaves memory alone yields without looking at it. -/
def opPure (P : Program) (o : Op) (ρ : Operand → AV) : Option AV :=
  match o with
  | .move x | .assign x => some (ρ x)
  | .pick c a b => match ρ c with | .bool t => some (if t then ρ a else ρ b) | _ => none
  | .binOp op t x y _ => binA P op t (ρ x) (ρ y)
  | .unOp op _ x => unA op (ρ x)
  | .convert s d x => match P.underlying s, P.underlying d, ρ x with
    | some _, some (.int k), .int _ n => some (.int k (k.wrap n))
    | _, _, _ => none
  | .makeFunc (.func f) first caps => if first.size = 0 then some (.fn f (caps.toList.map ρ)) else none
  | .nilCheck x => match ρ x with | .ptr id off => some (.ptr id off) | .pp cs => some (.pp cs) | _ => none
  | .fieldAddr s x f => match P.underlying s with
    | some (.struct fs) => match fs[f]?, ρ x with
      | some fd, .ptr id off => if (isz P fd.type).getD 0 = 0 then none else some (.ptr id (off + fd.offset))
      | some fd, .pp cs => if (isz P fd.type).getD 0 = 0 then none else some (.pp (cs.drop fd.offset))
      | _, _ => none
    | _ => none
  | .field t x f => match P.underlying t with
    | some (.struct fs) => match fs[f]?, ρ x with
      | some fd, .agg cs => partA P fd.type cs fd.offset
      | _, _ => none
    | _ => none
  | .indexAddr t x i => match P.underlying t, ρ x with
    | some (.slice e), .lst xs => (idxA (ρ i) xs.length).bind fun j => (xs[j]?).bind fun cs => if isz P e = some cs.length then some (.pp cs) else none
    | some (.slice e), .sl id off n sz => (idxA (ρ i) n).bind fun j => if isz P e = some sz then some (.ptr id (off + j * sz)) else none
    | some (.array n e), .ptr id off => (idxA (ρ i) n).bind fun j => (isz P e).map fun sz => .ptr id (off + j * sz)
    | some (.array n e), .pp cs => (idxA (ρ i) n).bind fun j => (isz P e).map fun sz => .pp (cs.drop (j * sz))
    | _, _ => none
  | .index t x i => match P.underlying t, ρ x with
    | some (.array n e), .agg cs => (idxA (ρ i) n).bind fun j => (isz P e).bind fun sz => partA P e cs (j * sz)
    | _, _ => none
  | .slice t x lo hi none => match P.underlying t, ρ x with
    | some (.slice e), .lst xs => (hiA ρ hi xs.length).bind fun b => (loA ρ lo b).bind fun a => match isz P e with | some sz => if xs.all (fun y => y.length == sz) then some (.lst ((xs.take b).drop a)) else none | none => none
    | some (.slice e), .sl id off n sz => (hiA ρ hi n).bind fun b => (loA ρ lo b).bind fun a => if isz P e = some sz ∧ 0 < sz then some (.sl id (off + a * sz) (b - a) sz) else none
    | _, _ => none
  | .extract x i => match ρ x with | .tup vs => vs[i]? | _ => none
  | .build t parts => match izero P t with
    | some (.agg z) => if z.all AV.isCell ∧ (parts.toList.all fun (_, x) => (ρ x).cells.all AV.isCell) then
      match P.underlying t with
      | some (.struct fs) => if fs.all fun f => (isz P f.type).isSome then (fillA (fun i => (fs[i]?).bind fun f => (isz P f.type).map fun s => (f.offset, s)) z (parts.toList.map fun (i, x) => (i, ρ x))).map .agg else none
      | some (.array _ e) => match isz P e with
        | some s => (fillA (fun i => some (i * s, s)) z (parts.toList.map fun (i, x) => (i, ρ x))).map .agg
        | none => none
      | _ => none
      else none
    | _ => none
  | .call { callee := .builtin .len, args, argTypes } => match (argTypes[0]?).bind P.underlying, args[0]? with
    | some (.slice _), some x => (lenA (ρ x)).map fun (n : Nat) => AV.int .i64 (n : Int)
    | some (.array n _), some _ => some (.int .i64 n)
    | _, _ => none
  | .call { callee := .builtin .min, args, .. } => minA (args.toList.map ρ)
  | .call { callee := .builtin .max, args, .. } => maxA (args.toList.map ρ)
  | _ => none

/-- What an operation yields that looks at memory and leaves it alone. -/
def opRead (P : Program) (o : Op) (ρ : Operand → AV) (h : Hp) (lim : Option Nat) : Option AV :=
  match o with
  | .load t p => match ρ p with
    | .pp cs => loadA P t cs 0
    | .ptr id off => (rd h lim id).bind fun flat => loadA P t flat off
    | _ => none
  | .slice t x lo hi none => match P.underlying t, ρ x with
    | some (.array n e), .ptr id off => (hiA ρ hi n).bind fun b => (loA ρ lo b).bind fun a => match isz P e, h.bl id with
      | some sz, some (.cells _ false flat) => if off + n * sz ≤ flat.length ∧ n ≤ maxLen ∧ lims lim id then some (.sl id (off + a * sz) (b - a) sz) else none
      | _, _ => none
    | _, _ => none
  | .lookup t m k ok => match P.underlying t, ρ m, ρ k with
    | some (.map kt et), .mp id, .int .i64 n => match h.bl id, izero P et, P.underlying kt with
      | some (.mp _ es), some z, some (.int _) => if lims lim id ∧ z.cells.all AV.isCell then
          let (v, b) := match findK n es with | some v => (v, true) | none => (z, false)
          some (if ok then .tup [v, .bool b] else v) else none
      | _, _, _ => none
    | some (.map kt et), .mv ks vs, .int .i64 n => match izero P et, P.underlying kt with
      | some z, some (.int _) => if z.cells.all AV.isCell then
          let (v, b) := match findK n (ks.zip vs) with | some v => (v, true) | none => (z, false)
          some (if ok then .tup [v, .bool b] else v) else none
      | _, _ => none
    | _, _, _ => none
  | .call { callee := .builtin .len, args, argTypes } => match (argTypes[0]?).bind P.underlying, (args[0]?).map ρ with
    | some (.map _ _), some (.mp id) => match h.bl id with
      | some (.mp _ es) => if lims lim id then some (.int .i64 es.length) else none
      | _ => none
    | _, _ => none
  | _ => none

/-- An operation that makes memory, or seals some: whoever only reads does not notice. -/
def opNew (P : Program) (dp : Bool) (o : Op) (ρ : Operand → AV) (h : Hp) : Option (AV × Hp) :=
  match o with
  | .alloc e => (izero P e).bind fun z => if z.cells.all AV.isCell then some (.ptr h.nx 0, h.alloc (.cells false false z.cells)) else none
  | .box _ x => if (ρ x).cells.all AV.isCell then some (.ptr h.nx 0, h.alloc (.cells false false (ρ x).cells)) else none
  | .makeMap _ none => some (.mp h.nx, h.alloc (.mp false []))
  | .makeSlice t l c => match P.underlying t, ρ l, ρ c with
    | some (.slice e), .int .i64 m, .int .i64 m' => match isz P e, ibytes P e, izero P e with
      | some sz, some by_, some z =>
        if 0 ≤ m ∧ m' = m ∧ 0 < sz ∧ m * by_ ≤ 281474976710656 ∧ m ≤ 281474976710656 ∧ z.cells.length = sz ∧ z.cells.all AV.isCell then
          some (.sl h.nx 0 m.toNat sz, h.alloc (.cells false true ((List.replicate m.toNat z.cells).flatten))) else none
      | _, _, _ => none
    | _, _, _ => none
  | .buildSlice t len parts => match P.underlying t with
    | some (.slice e) => match isz P e, izero P e with
      | some sz, some z =>
        if len = 0 ∧ parts = #[] ∧ 0 < sz then some (.sl h.nx 0 0 sz, h.alloc (.cells false true [])) else
        if 0 < sz ∧ len * sz ≤ 4096 ∧ z.cells.length = sz ∧ z.cells.all AV.isCell ∧ AV.pureL z.cells then
          if dp = true then
            (if (parts.toList.map fun (_, x) => ρ x).all (fun v => v.cells.all AV.isCell) then (fillA (fun i => some (i * sz, sz)) (List.replicate len z.cells).flatten ((parts.toList.map (·.1)).zip (parts.toList.map fun (_, x) => ρ x))).map fun cs => (.sl h.nx 0 len sz, h.alloc (.cells false true cs)) else none)
          else
          (sealArgs h (parts.toList.map fun (_, x) => ρ x)).bind fun (vs, h') =>
            if vs.all (fun v => v.cells.all AV.isCell) then (fillA (fun i => some (i * sz, sz)) (List.replicate len z.cells).flatten ((parts.toList.map (·.1)).zip vs)).bind fun cs =>
              if AV.pureL cs then some (.lst (chunk sz cs), h') else none else none
        else none
      | _, _ => none
    | _ => none
  | _ => none

/-- An operation that writes. -/
def opWrite (P : Program) (o : Op) (ρ : Operand → AV) (h : Hp) : Option (AV × Hp) :=
  match o with
  | .store t p x => match ρ p, isz P t with
    | .ptr id off, some sz => match h.bl id with
      | some (.cells false row flat) =>
        if (ρ x).cells.length = sz ∧ off + sz ≤ flat.length ∧ (ρ x).cells.all AV.isCell then some (.skp, h.put id (some (.cells false row (setL flat off (ρ x).cells)))) else none
      | _ => none
    | _, _ => none
  | .mapUpdate t m k x => match P.underlying t, ρ m, ρ k with
    | some (.map kt _), .mp id, .int .i64 n => match h.bl id, P.underlying kt with
      | some (.mp fz es), some (.int .i64) => if fz then none else some (.skp, h.put id (some (.mp false (putK n (ρ x) es))))
      | _, _ => none
    | _, _, _ => none
  | .insert t m k x => match P.underlying t, ρ m, ρ k with
    | some (.map kt _), .mp id, .int .i64 n => match h.bl id, P.underlying kt with
      | some (.mp fz es), some (.int .i64) => if fz then none else some (.skp, h.put id (some (.mp false (putK n (ρ x) es))))
      | _, _ => none
    | _, _, _ => none
  | .call { callee := .builtin .append, args, argTypes } => match argTypes[0]?, argTypes[1]?, args[0]?, args[1]? with
    | some t, some t', some s, some x => match P.underlying t with
      | some (.slice e) => match isz P e, ibytes P e, izero P e, cellsOf h none (ρ x), lenA (ρ x) with
        | some sz, some by_, some z, some ys, some m =>
          if t' = t ∧ 0 < sz ∧ z.cells.length = sz ∧ ys.length = m * sz ∧ ys.all AV.isCell then
            match ρ s with
            | .nil => if m * by_ ≤ 140737488355328 ∧ m ≤ 140737488355328 then some (.sl h.nx 0 m sz, h.alloc (.cells false true ys)) else none
            | .sl id 0 n sz' => match h.bl id with
              | some (.cells false true flat) =>
                if sz' = sz ∧ flat.length = n * sz ∧ (n + m) * by_ ≤ 140737488355328 ∧ n + m ≤ 140737488355328 then
                  some (.sl h.nx 0 (n + m) sz, (h.put id none).alloc (.cells false true (flat ++ ys))) else none
              | _ => none
            | _ => none
          else none
        | _, _, _, _, _ => none
      | _ => none
    | _, _, _, _ => none
  | .call { callee := .builtin .copy, args, argTypes } => match argTypes[0]?, (args[0]?).map ρ, args[1]? with
    | some t, some (.sl id off n sz), some x => match P.underlying t with
      | some (.slice e) => match isz P e, cellsOf h none (ρ x), lenA (ρ x), h.bl id with
        | some sz', some ys, some m, some (.cells false row flat) =>
          if sz' = sz ∧ 0 < sz ∧ ys.length = m * sz ∧ off + n * sz ≤ flat.length ∧ ys.all AV.isCell then
            some (.int .i64 (min m n : Nat), h.put id (some (.cells false row (setL flat off (ys.take (min m n * sz)))))) else none
        | _, _, _, _ => none
      | _ => none
    | _, _, _ => none
  | .call { callee := .builtin .clear, args, argTypes } => match argTypes[0]?, (args[0]?).map ρ with
    | some t, some (.sl id off n sz) => match P.underlying t with
      | some (.slice e) => match isz P e, izero P e, h.bl id with
        | some sz', some z, some (.cells false row flat) =>
          if sz' = sz ∧ 0 < sz ∧ z.cells.length = sz ∧ off + n * sz ≤ flat.length ∧ z.cells.all AV.isCell then
            some (.tup [], h.put id (some (.cells false row (setL flat off (List.replicate n z.cells).flatten)))) else none
        | _, _, _ => none
      | _ => none
    | _, _ => none
  | _ => none

end Go.Am

