/-
  The second machine's run: regions, calls, loops.
-/
import Derived.Test.YtcdpkgmkckfonaaAmBase
set_option linter.unusedVariables false
set_option linter.unusedSimpArgs false
namespace Go.Am
open Go

structure Cfg where
  own : FuncId → Bool
  keepNil : FuncId → Bool
  shared : FuncId → Bool
  ext : FuncId → List AV → Option AV
  /-- The drawn regions, by number and length, whose orders are compared by what the operations touch. -/
  strict : Nat → Nat → Bool := fun _ _ => false
  /-- Registers that point to what such a region writes (where it is reached by a part of it). -/
  wr : Nat → Nat → List Nat := fun _ _ => []
  /-- Allocations of such a region that the real run may do earlier: nobody but what comes after everything else asks for them. -/
  late : Nat → Nat → List Nat := fun _ _ => []
  /-- Slices that are written out stay alive. -/
  deep : Bool := false

/-- Values one after the other, with the blocks that have been handed over. -/
def freshAll (f : List Nat → AV → Option (AV × List Nat)) : List Nat → List AV → Option (List AV × List Nat)
  | u, [] => some ([], u)
  | u, v :: vs => (f u v).bind fun (v', u') => (freshAll f u' vs).map fun (vs', u'') => (v' :: vs', u'')
/-- A list with all that it holds, handed over whole. -/
def freshN (h : Hp) : Nat → List Nat → AV → Option (AV × List Nat)
  | 0, u, v => if v.isPure && v.isCell then some (v, u) else none
  | k + 1, u, v => if v.isPure && v.isCell then some (v, u) else match v with
    | .sl id off n sz => match h.bl id with
      | some (.cells false true flat) => if off = 0 ∧ 0 < sz ∧ flat.length = n * sz ∧ ¬ id ∈ u then (freshAll (freshN h k) (id :: u) flat).map fun (flat', u') => (.fresh sz flat', u') else none
      | _ => none
    | _ => none
def freshV (h : Hp) (u : List Nat) (v : AV) : Option (AV × List Nat) :=
  match v with
  | .agg cs => (freshAll (freshN h 3) u cs).map fun (cs', u') => (.own (.agg cs'), u')
  | .sl id off n sz => (freshN h 4 u (.sl id off n sz)).map fun (v', u') => (.own v', u')
  | _ => none

/-- A result on its way out, for a caller that shares no memory: lists as lists. 'used': the blocks that have been handed over whole. -/
def exportV (P : Program) (ow kn : Bool) (t : TypeId) (h : Hp) (used : List Nat) (v : AV) : Option (AV × Hp × List Nat) :=
  if ow then
    if kn then (if v.isPure then some (v, h, used) else (freshV h used v).map fun (v', u') => (v', h, u'))
    else match v with
    | .nil => match P.underlying t with
      | some (.slice e) => (isz P e).bind fun sz => if 0 < sz then some (.fresh sz [], h, used) else none
      | _ => none
    | .sl id off n sz => match h.bl id with
      | some (.cells false true flat) => if AV.pureL flat ∧ off = 0 ∧ 0 < sz ∧ flat.length = n * sz ∧ ¬ id ∈ used then some (.fresh sz flat, h, id :: used) else none
      | _ => none
    | v => if v.isPure then some (v, h, used) else none
  else
    match kn, v with
    | true, .nil => some (.nil, h, used)
    | _, v => (sealA h v).map fun (v', h') => (v', h', used)
def exportL (P : Program) (ow kn : Bool) (h : Hp) (used : List Nat) : List TypeId → List AV → Option (List AV)
  | [], [] => some []
  | t :: ts, v :: vs => (exportV P ow kn t h used v).bind fun (v', h', u') => (exportL P ow kn h' u' ts vs).map fun vs' => v' :: vs'
  | _, _ => none
def isTup : AV → Bool
  | .tup _ => true
  | _ => false
def exportR (P : Program) (ow kn : Bool) (ts : List TypeId) (h : Hp) (v : AV) : Option AV :=
  match v with
  | .tup vs => (exportL P ow kn h [] ts vs).map .tup
  | v => match ts with | [t] => (exportV P ow kn t h [] v).bind fun r => if isTup r.1 then none else some r.1 | _ => none

def mapH (f : Hp → AV → AV × Hp) : Hp → List AV → List AV × Hp
  | h, [] => ([], h)
  | h, v :: vs => ((f h v).1 :: (mapH f (f h v).2 vs).1, (mapH f (f h v).2 vs).2)
def importN : Nat → Hp → AV → AV × Hp
  | k + 1, h, .fresh sz flat => (.sl (mapH (importN k) h flat).2.nx 0 (flat.length / sz) sz, (mapH (importN k) h flat).2.alloc (.cells false true (mapH (importN k) h flat).1))
  | _, h, v => (v, h)
def importV (h : Hp) (v : AV) : AV × Hp :=
  match v with
  | .fresh sz flat => (.sl h.nx 0 (flat.length / sz) sz, h.alloc (.cells false true flat))
  | .own (.agg cs) => (.agg (mapH (importN 3) h cs).1, (mapH (importN 3) h cs).2)
  | .own v => importN 4 h v
  | v => (v, h)
def importL (h : Hp) : List AV → List AV × Hp
  | [] => ([], h)
  | v :: vs => let (v', h') := importV h v; let (vs', h'') := importL h' vs; (v' :: vs', h'')
def importR (h : Hp) (v : AV) : AV × Hp :=
  match v with
  | .tup vs => let (vs', h') := importL h vs; (.tup vs', h')
  | v => importV h v

def initSt (args : List AV) : St := fun i => (args[i]?).getD .skp

def resA (P : Program) (h : Hp) (st : St) : ResultVar → Option AV
  | .tmp t => some (st t)
  | .cell a t => match st a with
    | .ptr id off => (rd h none id).bind fun flat => loadA P t flat off
    | _ => none
def resL (P : Program) (h : Hp) (st : St) : List ResultVar → Option (List AV)
  | [] => some []
  | r :: rs => (resA P h st r).bind fun v => (resL P h st rs).map fun vs => v :: vs
def resR (P : Program) (h : Hp) (st : St) (rs : List ResultVar) : Option AV :=
  (resL P h st rs).map fun | [v] => v | vs => .tup vs

/-! ### What is checked once of a function's text -/
def opTmps (o : Oper) : List Nat :=
  (o.op.operands.toList.filterMap fun | .tmp t => some t | _ => none)
def tmpsOk (n : Nat) (o : Oper) : Bool := (match o.dst with | some d => decide (d < n) | none => true)
def readsOf (ops : Array Oper) (o : Oper) : List Nat :=
  opTmps o ++ (match o.guard with | some (j, _) => (((ops[j]?).bind (·.dst)).toList) | none => [])

inductive Kd where
  | pure | read | new | write | call
  deriving DecidableEq
def kindOf (shared : FuncId → Bool) : Op → Kd
  | .load .. | .lookup .. | .slice .. => .read
  | .alloc _ | .box .. | .makeMap .. | .makeSlice .. | .buildSlice .. => .new
  | .call { callee := .value (.func g), .. } => if shared g then .write else .new
  | .call { callee := .builtin .len, .. } => .read
  | .call { callee := .builtin .min, .. } => .pure
  | .call { callee := .builtin .max, .. } => .pure
  | .call _ => .write
  | .store .. | .mapUpdate .. | .insert .. => .write
  | _ => .pure
/-- May the two be done in either order? -/
def Kd.free : Kd → Kd → Bool
  | .pure, _ => true
  | _, .pure => true
  | .read, .read => true
  | .read, .new => true
  | .new, .read => true
  | _, _ => false
def pairOk (shared : FuncId → Bool) (ops : Array Oper) (i j : Nat) (a b : Oper) : Bool :=
  (Kd.free (kindOf shared a.op) (kindOf shared b.op)) &&
  (match a.dst with | some d => !(readsOf ops b).contains d && decide (b.dst ≠ some d) | none => true) &&
  (match b.dst with | some d => !(readsOf ops a).contains d | none => true)
/-- A region whose order is drawn: whatever two operations are not held in their order may change places. -/
def drawG (pr : Nat → Nat → Oper → Oper → Bool) (ops : Array Oper) : Bool :=
  (ops.toList.zipIdx.all fun (o, i) => o.after.all fun e => !Region.binds .text e || decide (e.on < i)) &&
  (!Region.departs ops || (ops.toList.zipIdx.all fun (o, i) => o.after.all fun e => !Region.binds .gc e || (decide (e.on < ops.size) && decide ((Region.linearise .gc ops 0).idxOf e.on < (Region.linearise .gc ops 0).idxOf i)))) &&
  (List.range ops.size).all fun j => (List.range j).all fun i =>
    ((Region.before ops).getD j 0).testBit i || pr i j (ops.getD i default) (ops.getD j default)
def drawOk (shared : FuncId → Bool) (ops : Array Oper) : Bool := drawG (pairOk shared ops) ops
/-! ### Orders compared by what the operations touch -/
def kindS (cfg : Cfg) : Op → Kd
  | .load .. | .lookup .. | .slice .. => .read
  | .alloc _ | .box .. | .makeMap .. | .makeSlice .. => .new
  | .buildSlice _ n _ => if n = 0 ∨ cfg.deep = true then .new else .pure
  | .call { callee := .value (.func g), .. } => if cfg.shared g then .call else if cfg.own g then .new else .pure
  | .call { callee := .builtin .len, .. } => .read
  | .call { callee := .builtin .min, .. } => .pure
  | .call { callee := .builtin .max, .. } => .pure
  | .call { callee := .builtin .append, .. } => .write
  | .call { callee := .builtin .copy, .. } => .write
  | .call _ => .call
  | .store .. | .mapUpdate .. | .insert .. => .write
  | _ => .pure
def Kd.freeS : Kd → Kd → Bool
  | .pure, _ => true
  | _, .pure => true
  | .read, .read => true
  | .read, .new => true
  | .new, .read => true
  | .read, .write => true
  | .write, .read => true
  | _, _ => false
def Kd.isRead : Kd → Bool
  | .read => true
  | _ => false
/-- A call of a function value: what it leaves alone is looked at when it is done. -/
def isCallK : Op → Bool
  | .call { callee := .value (.tmp _), .. } => true
  | _ => false
def KeepsL (l : Nat → Bool) (h h' : Hp) : Prop := ∀ id, l id = true → h'.bl id = h.bl id
def pairS (cfg : Cfg) (ops : Array Oper) (i j : Nat) (a b : Oper) : Bool :=
  (Kd.freeS (kindS cfg a.op) (kindS cfg b.op) || ((kindS cfg a.op).isRead && isCallK b.op) || (isCallK a.op && (kindS cfg b.op).isRead)) &&
  (match a.dst with | some d => !(readsOf ops b).contains d && decide (b.dst ≠ some d) | none => true) &&
  (match b.dst with | some d => !(readsOf ops a).contains d | none => true)
def isAlloc : Op → Bool
  | .alloc _ => true
  | .makeSlice .. => true
  | _ => false
def lateB (cfg : Cfg) (ops : Array Oper) (A : List Nat) : Bool :=
  let bf := Region.before ops
  let isR := fun k => A.any fun j => (bf.getD k 0).testBit j
  decide A.Nodup && (A.all fun j => decide (j < ops.size) && (isAlloc (ops.getD j default).op && ((ops.getD j default).guard.isNone && ((ops.getD j default).dst.isSome && !isR j)))) &&
  (A.all fun j => A.all fun k => j == k || decide ((ops.getD j default).dst ≠ (ops.getD k default).dst)) &&
  ((List.range ops.size).all fun k => !isR k || (List.range ops.size).all fun i => isR i || ((bf.getD k 0).testBit i || (!A.contains i && A.all fun j => !decide (i < j) || pairS cfg ops i j (ops.getD i default) (ops.getD j default)))) &&
  ((List.range ops.size).all fun i => isR i || (A.contains i || A.all fun j => match (ops.getD j default).dst with | some d => !(readsOf ops (ops.getD i default)).contains d && decide ((ops.getD i default).dst ≠ some d) | none => false)) &&
  (A.all fun j => (A.all fun k => match (ops.getD k default).dst with | some d => !(readsOf ops (ops.getD j default)).contains d | none => true) &&
    ((List.range ops.size).all fun i => A.contains i || ((bf.getD j 0).testBit i || match (ops.getD i default).dst with | some d => !(readsOf ops (ops.getD j default)).contains d | none => true)))
/-- What is looked at while such a region runs: 'l' says which blocks are only read. -/
def chk (cfg : Cfg) (l : Nat → Bool) (o : Op) (ρ : Operand → AV) : Bool :=
  match o with
  | .load _ p => match ρ p with | .ptr id _ => l id | .pp _ => true | _ => false
  | .slice _ x _ _ _ => match ρ x with | .ptr id _ => l id | _ => true
  | .lookup _ m _ _ => match ρ m with | .mp id => l id | .mv .. => true | _ => false
  | .call { callee := .builtin .len, args, .. } => match args[0]? with | some x => (match ρ x with | .mp id => l id | _ => true) | none => true
  | .store _ p _ => match ρ p with | .ptr id _ => !l id | _ => false
  | .mapUpdate _ m _ _ => match ρ m with | .mp id => !l id | _ => false
  | .insert _ m _ _ => match ρ m with | .mp id => !l id | _ => false
  | .call { callee := .builtin .append, args, .. } => match args[0]? with | some x => (match ρ x with | .sl id _ _ _ => !l id | .nil => true | _ => false) | none => false
  | .call { callee := .builtin .copy, args, .. } => match args[0]? with | some x => (match ρ x with | .sl id _ _ _ => !l id | _ => false) | none => false
  | .call { callee := .value (.func g), args, .. } => cfg.shared g || cfg.own g || (args.toList.all fun x => (ρ x).isPure)
  | .buildSlice _ n parts => n == 0 || cfg.deep || (parts.toList.all fun x => (ρ x.2).isPure)
  | _ => true
def chkG (cfg : Cfg) (l : Nat → Bool) (ops : Array Oper) (o : Oper) (st : St) : Bool :=
  match o.guard with
  | none => chk cfg l o.op (ev st)
  | some (j, w) => match (ops[j]?).bind (·.dst) with
    | none => true
    | some d => match st d with
      | .bool b => if b = w then chk cfg l o.op (ev st) else true
      | _ => true
def wrIds (ops : Array Oper) (st : St) : List Nat :=
  ops.toList.filterMap fun o => match o.op with
    | .store _ (.tmp p) _ => match st p with | .ptr id _ => some id | _ => none
    | _ => none
def wrX (ps : List Nat) (st : St) : List Nat := ps.filterMap fun p => match st p with | .ptr id _ => some id | .sl id _ _ _ => some id | _ => none
def okIds (nx : Nat) (ids : List Nat) (id : Nat) : Bool := decide (id < nx) && !ids.contains id
def codeOk (cfg : Cfg) (n : Nat) : Code → Bool
  | .region id ops draw => ops.toList.all (tmpsOk n) && (!draw || (if cfg.strict id ops.size then drawG (fun i j a b => pairS cfg ops i j a b || (cfg.late id ops.size).contains j) ops && lateB cfg ops (cfg.late id ops.size) else drawOk cfg.shared ops))
  | .seq a b => codeOk cfg n a && codeOk cfg n b
  | .cond _ a b => codeOk cfg n a && codeOk cfg n b
  | .block _ b => codeOk cfg n b
  | .loop b => codeOk cfg n b
  | .scope b => codeOk cfg n b
  | .skip | .exit _ | .ret | .label _ => true
  | _ => false
def funcOk (cfg : Cfg) (fn : Func) (body : Code) : Bool :=
  (fn.name != "runtime.NumGoroutine") && decide (fn.params.size + fn.nfree ≤ fn.ntmps) && codeOk cfg fn.ntmps body

section
variable (P : Program) (cfg : Cfg)

/-- One operation, its calls by 'call'. -/
def stepK (dp : Bool) (call : FuncId → List AV → Hp → Option (AV × Hp)) (ops : Array Oper) (lim : Option Nat) (o : Oper) (st : St) (h : Hp) : Option (AV × Hp) :=
  match opPure P o.op (ev st) with
  | some v => some (v, h)
  | none => match opRead P o.op (ev st) h lim with
    | some v => some (v, h)
    | none => match opNew P dp o.op (ev st) h with
      | some r => some r
      | none => match opWrite P o.op (ev st) h with
        | some r => some r
        | none => match o.op with
          | .call { callee := .value f, args, .. } => match ev st f with
            | .fn g caps => call g (args.toList.map (ev st) ++ caps) h
            | _ => none
          | _ => none

def stepO (dp : Bool) (call : FuncId → List AV → Hp → Option (AV × Hp)) (ops : Array Oper) (lim : Option Nat) (o : Oper) (st : St) (h : Hp) : Option (St × Hp) :=
  let go := (stepK P dp call ops lim o st h).map fun (v, h') => (updO st o.dst v, h')
  match o.guard with
  | none => go
  | some (j, w) => match (ops[j]?).bind (·.dst) with
    | none => none
    | some d => match st d with
      | .bool b => if b = w then go else some (updO st o.dst .skp, h)
      | .skp => some (updO st o.dst .skp, h)
      | _ => none

def runOps (dp : Bool) (call : FuncId → List AV → Hp → Option (AV × Hp)) (ops : Array Oper) (lim : Option Nat) : List Oper → St → Hp → Option (St × Hp)
  | [], st, h => some (st, h)
  | o :: os, st, h => (stepO P dp call ops lim o st h).bind fun (st', h') => runOps dp call ops lim os st' h'

open Classical in
noncomputable def stepS (cfg : Cfg) (call : FuncId → List AV → Hp → Option (AV × Hp)) (ops : Array Oper) (l : Nat → Bool) (o : Oper) (st : St) (h : Hp) : Option (St × Hp) :=
  if chkG cfg l ops o st then (if isCallK o.op then (stepO P cfg.deep call ops none o st h).bind fun r => if KeepsL l h r.2 then some r else none else stepO P cfg.deep call ops none o st h) else none
noncomputable def runOpsS (cfg : Cfg) (call : FuncId → List AV → Hp → Option (AV × Hp)) (ops : Array Oper) (l : Nat → Bool) : List Oper → St → Hp → Option (St × Hp)
  | [], st, h => some (st, h)
  | o :: os, st, h => (stepS P cfg call ops l o st h).bind fun (st', h') => runOpsS cfg call ops l os st' h'

mutual
noncomputable def run : Nat → Code → St → Hp → Option (Exit × St × Hp)
  | 0, _, _, _ => none
  | k + 1, c, st, h =>
    match c with
    | .skip => some (.normal, st, h)
    | .label _ => some (.normal, st, h)
    | .exit id => some (.exit id, st, h)
    | .ret => some (.ret, st, h)
    | .region id ops draw => (if draw && cfg.strict id ops.size then runOpsS P cfg (callO k) ops (okIds h.nx (wrIds ops st ++ wrX (cfg.wr id ops.size) st)) ops.toList st h
        else runOps P cfg.deep (callO k) ops (if draw then some h.nx else none) ops.toList st h).map fun (st', h') => (.normal, st', h')
    | .seq a b => (run k a st h).bind fun
      | (.normal, st', h') => run k b st' h'
      | r => some r
    | .cond c a b => match ev st c with
      | .bool t => run k (if t then a else b) st h
      | _ => none
    | .block id b => (run k b st h).map fun
      | (.exit j, st', h') => (if j = id then .normal else .exit j, st', h')
      | r => r
    | .loop b => (run k b st h).bind fun
      | (.normal, st', h') => run k (.loop b) st' h'
      | r => some r
    | .scope b => run k b st h
    | _ => none
/-- A call in the caller's own memory. -/
noncomputable def callS : Nat → FuncId → List AV → Hp → Option (AV × Hp)
  | 0, _, _, _ => none
  | k + 1, f, args, h =>
    match P.funcs[f]? with
    | none => none
    | some fn => match fn.body with
      | none => none
      | some body => if funcOk cfg fn body ∧ args.length ≤ fn.ntmps then
          match run k body (initSt args) h with
          | some (.normal, st', h') => (resR P h' st' fn.results.toList).map fun v => (v, h')
          | some (.ret, st', h') => (resR P h' st' fn.results.toList).map fun v => (v, h')
          | _ => none
        else none
/-- A call that shares no memory. -/
noncomputable def callP : Nat → FuncId → List AV → Option AV
  | 0, _, _ => none
  | k + 1, f, args =>
    match cfg.ext f args with
    | some r => some r
    | none => match P.funcs[f]? with
      | none => none
      | some fn => (callS k f args Hp.empty).bind fun (v, h) => exportR P (cfg.own f) (cfg.keepNil f) fn.resultTypes.toList h v
noncomputable def callO : Nat → FuncId → List AV → Hp → Option (AV × Hp)
  | 0, _, _, _ => none
  | k + 1, f, args, h =>
    if cfg.shared f then callS k f args h
    else (sealArgs h args).bind fun (args', h') => (callP k f args').bind fun r => if r.isScalar then some (r, h) else if r.isFree then some (importR h r) else some (importR h' r)
end
end
end Go.Am

