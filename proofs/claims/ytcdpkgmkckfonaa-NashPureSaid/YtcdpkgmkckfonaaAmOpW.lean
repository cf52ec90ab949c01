/-
  Rules for single operations, for values that are lists and numbers.
-/
import Derived.Test.YtcdpkgmkckfonaaAmStep
set_option linter.unusedVariables false
set_option linter.unusedSimpArgs false
namespace Go.Am
open Go

section
variable {P : Program} {cfg : Cfg} {st : St} {h : Hp} {ops : Array Oper} {lim : Option Nat} {K : AV → Hp → Prop}

/-- By the kind of the operation. -/
theorem StepW_pureOp {o : Op} {r : Option AV} (e : opPure P o (ev st) = r) (h1 : opRead P o (ev st) h lim = none) (h2 : opNew P cfg.deep o (ev st) h = none) (h3 : opWrite P o (ev st) h = none)
    (h4 : ∀ call : FuncId → List AV → Hp → Option (AV × Hp), (match o with | .call { callee := .value f, args, .. } => (match ev st f with | .fn g caps => call g (args.toList.map (ev st) ++ caps) h | _ => none) | _ => none) = none) :
    StepW P cfg ops lim o st h K = getW r h K := by
  subst e
  refine StepW_get fun call => ?_
  unfold stepK
  cases hp : opPure P o (ev st) with
  | some v => simp only [hp]; rfl
  | none => simp only [hp, h1, h2, h3]; exact h4 call
theorem StepW_readOp {o : Op} {r : Option AV} (e : opRead P o (ev st) h lim = r) (h1 : opPure P o (ev st) = none) (h2 : opNew P cfg.deep o (ev st) h = none) (h3 : opWrite P o (ev st) h = none)
    (h4 : ∀ call : FuncId → List AV → Hp → Option (AV × Hp), (match o with | .call { callee := .value f, args, .. } => (match ev st f with | .fn g caps => call g (args.toList.map (ev st) ++ caps) h | _ => none) | _ => none) = none) :
    StepW P cfg ops lim o st h K = getW r h K := by
  subst e
  refine StepW_get fun call => ?_
  unfold stepK
  cases hp : opRead P o (ev st) h lim with
  | some v => simp only [h1, hp]; rfl
  | none => simp only [hp, h1, h2, h3]; exact h4 call
theorem StepW_newOp {o : Op} {r : Option (AV × Hp)} (e : opNew P cfg.deep o (ev st) h = r) (h1 : opPure P o (ev st) = none) (h2 : opRead P o (ev st) h lim = none) (h3 : opWrite P o (ev st) h = none)
    (h4 : ∀ call : FuncId → List AV → Hp → Option (AV × Hp), (match o with | .call { callee := .value f, args, .. } => (match ev st f with | .fn g caps => call g (args.toList.map (ev st) ++ caps) h | _ => none) | _ => none) = none) :
    StepW P cfg ops lim o st h K = getW2 r K := by
  subst e
  refine StepW_of fun call => ?_
  unfold stepK
  cases hp : opNew P cfg.deep o (ev st) h with
  | some v => simp only [h1, h2, hp]
  | none => simp only [hp, h1, h2, h3]; exact h4 call
theorem StepW_writeOp {o : Op} {r : Option (AV × Hp)} (e : opWrite P o (ev st) h = r) (h1 : opPure P o (ev st) = none) (h2 : opRead P o (ev st) h lim = none) (h3 : opNew P cfg.deep o (ev st) h = none)
    (h4 : ∀ call : FuncId → List AV → Hp → Option (AV × Hp), (match o with | .call { callee := .value f, args, .. } => (match ev st f with | .fn g caps => call g (args.toList.map (ev st) ++ caps) h | _ => none) | _ => none) = none) :
    StepW P cfg ops lim o st h K = getW2 r K := by
  subst e
  refine StepW_of fun call => ?_
  unfold stepK
  cases hp : opWrite P o (ev st) h with
  | some v => simp only [h1, h2, h3, hp]
  | none => simp only [hp, h1, h2, h3]; exact h4 call

@[go_sem ↓] theorem W_move (x : Operand) : StepW P cfg ops lim (.move x) st h K = K (ev st x) h := (StepW_of (fun _ => rfl)).trans (getW2_some _)
@[go_sem ↓] theorem W_assign (x : Operand) : StepW P cfg ops lim (.assign x) st h K = K (ev st x) h := (StepW_of (fun _ => rfl)).trans (getW2_some _)

def pickA (c a b : AV) : Option AV := match c with | .bool t => some (if t then a else b) | _ => none
@[go_sem] theorem pickA_true (a b : AV) : pickA (.bool true) a b = some a := rfl
@[go_sem] theorem pickA_false (a b : AV) : pickA (.bool false) a b = some b := rfl
@[go_sem ↓] theorem W_pick (c a b : Operand) : StepW P cfg ops lim (.pick c a b) st h K = getW (pickA (ev st c) (ev st a) (ev st b)) h K :=
  StepW_pureOp rfl rfl rfl rfl fun _ => rfl

@[go_sem ↓] theorem W_binOp (op : BinOp) (t t' : TypeId) (x y : Operand) : StepW P cfg ops lim (.binOp op t x y t') st h K = getW (binA P op t (ev st x) (ev st y)) h K :=
  StepW_pureOp rfl rfl rfl rfl fun _ => rfl
@[go_sem ↓] theorem W_unOp (op : UnOp) (t : TypeId) (x : Operand) : StepW P cfg ops lim (.unOp op t x) st h K = getW (unA op (ev st x)) h K :=
  StepW_pureOp rfl rfl rfl rfl fun _ => rfl

/-! ### Numbers -/
@[go_sem] theorem binA_add (t : TypeId) (k : IntKind) (a b : Int) : binA P .add t (.int k a) (.int k b) = some (.int k (k.wrap (a + b))) := by simp [binA, binI, isShift]
@[go_sem] theorem binA_sub (t : TypeId) (k : IntKind) (a b : Int) : binA P .sub t (.int k a) (.int k b) = some (.int k (k.wrap (a - b))) := by simp [binA, binI, isShift]
@[go_sem] theorem binA_mul (t : TypeId) (k : IntKind) (a b : Int) : binA P .mul t (.int k a) (.int k b) = some (.int k (k.wrap (a * b))) := by simp [binA, binI, isShift]
@[go_sem] theorem binA_lss (t : TypeId) (k : IntKind) (a b : Int) : binA P .lss t (.int k a) (.int k b) = some (.bool (decide (a < b))) := by simp [binA, binI, isShift]
@[go_sem] theorem binA_leq (t : TypeId) (k : IntKind) (a b : Int) : binA P .leq t (.int k a) (.int k b) = some (.bool (decide (a ≤ b))) := by simp [binA, binI, isShift]
@[go_sem] theorem binA_gtr (t : TypeId) (k : IntKind) (a b : Int) : binA P .gtr t (.int k a) (.int k b) = some (.bool (decide (b < a))) := by simp [binA, binI, isShift]
@[go_sem] theorem binA_geq (t : TypeId) (k : IntKind) (a b : Int) : binA P .geq t (.int k a) (.int k b) = some (.bool (decide (b ≤ a))) := by simp [binA, binI, isShift]
@[go_sem] theorem binA_eql (t : TypeId) (k : IntKind) (a b : Int) : binA P .eql t (.int k a) (.int k b) = some (.bool (decide (a = b))) := by
  simp only [binA, binI, isShift]
  rw [show (a == b) = decide (a = b) from rfl]
  simp
@[go_sem] theorem binA_neq (t : TypeId) (k : IntKind) (a b : Int) : binA P .neq t (.int k a) (.int k b) = some (.bool (decide (a ≠ b))) := by
  simp only [binA, binI, isShift, bne]
  rw [show (a == b) = decide (a = b) from rfl]
  simp
@[go_sem] theorem unA_not (b : Bool) : unA .not (.bool b) = some (.bool (!b)) := rfl
@[go_sem] theorem unA_neg (k : IntKind) (n : Int) : unA .neg (.int k n) = some (.int k (k.wrap (0 - n))) := rfl

theorem wrap_i64 (n : Int) : IntKind.i64.wrap n = (n + 9223372036854775808) % 18446744073709551616 - 9223372036854775808 := by
  simp [IntKind.wrap, IntKind.bits, IntKind.signed]
  split <;> omega
/-- No overflow. -/
@[go_sem] theorem wrap_ok (n : Int) (h1 : -9223372036854775808 ≤ n) (h2 : n ≤ 9223372036854775807) : IntKind.i64.wrap n = n := by
  rw [wrap_i64]; omega

/-! ### Lengths, indices -/
def lenB (u : Option TypeDesc) (x : AV) (h : Hp) (lim : Option Nat) : Option AV :=
  match u with
  | some (.slice _) => (lenA x).map fun n => .int .i64 n
  | some (.array n _) => some (.int .i64 n)
  | some (.map _ _) => match x with
    | .mp id => match h.bl id with
      | some (.mp _ es) => if lims lim id then some (.int .i64 es.length) else none
      | _ => none
    | _ => none
  | _ => none
@[go_sem ↓] theorem W_len (x : Operand) (t : TypeId) : StepW P cfg ops lim (.call ⟨.builtin .len, #[x], #[t]⟩) st h K = getW (lenB (P.underlying t) (ev st x) h lim) h K := by
  cases hu : P.underlying t with
  | none => exact StepW_pureOp (by simp [opPure, hu]; rfl) (by simp [opRead, hu]) rfl rfl fun _ => rfl
  | some d =>
    cases d
    case slice e => exact StepW_pureOp (by simp only [opPure, hu, lenB, List.getElem?_toArray, List.getElem?_cons_zero, Option.bind_some]; cases lenA (ev st x) <;> rfl) (by simp [opRead, hu]) rfl rfl fun _ => rfl
    case array n e => exact StepW_pureOp (by simp [opPure, hu, lenB]) (by simp [opRead, hu]) rfl rfl fun _ => rfl
    case map k e => exact StepW_readOp (by simp only [opRead, hu, lenB, List.getElem?_toArray, List.getElem?_cons_zero, Option.bind_some, Option.map_some]; cases ev st x <;> rfl) (by simp [opPure, hu]) rfl rfl fun _ => rfl
    all_goals exact StepW_pureOp (by simp [opPure, hu]; rfl) (by simp [opRead, hu]) rfl rfl fun _ => rfl
@[go_sem] theorem lenB_lst (e : TypeId) (xs : List (List AV)) : lenB (some (.slice e)) (.lst xs) h lim = some (I xs.length) := by simp [lenB, lenA]
@[go_sem] theorem lenB_nil (e : TypeId) : lenB (some (.slice e)) .nil h lim = some (I 0) := rfl
@[go_sem] theorem lenB_sl (e : TypeId) (id off n sz : Nat) : lenB (some (.slice e)) (.sl id off n sz) h lim = some (I n) := rfl
@[go_sem] theorem lenB_arr (n : Nat) (e : TypeId) (x : AV) : lenB (some (.array n e)) x h lim = some (I n) := rfl

def idxAddrA (P : Program) (u : Option TypeDesc) (x i : AV) : Option AV :=
  match u, x with
  | some (.slice e), .lst xs => (idxA i xs.length).bind fun j => (xs[j]?).bind fun cs => if isz P e = some cs.length then some (.pp cs) else none
  | some (.slice e), .sl id off n sz => (idxA i n).bind fun j => if isz P e = some sz then some (.ptr id (off + j * sz)) else none
  | some (.array n e), .ptr id off => (idxA i n).bind fun j => (isz P e).map fun sz => .ptr id (off + j * sz)
  | some (.array n e), .pp cs => (idxA i n).bind fun j => (isz P e).map fun sz => .pp (cs.drop (j * sz))
  | _, _ => none
@[go_sem ↓] theorem W_indexAddr (t : TypeId) (x i : Operand) : StepW P cfg ops lim (.indexAddr t x i) st h K = getW (idxAddrA P (P.underlying t) (ev st x) (ev st i)) h K :=
  StepW_pureOp rfl rfl rfl rfl fun _ => rfl
theorem idxAddr_L {α : Type} [Inhabited α] {f : α → List AV} {sz : Nat} [RowEnc f sz] (e : TypeId) (xs : List α) (k : IntKind) (i : Int) (hz : isz P e = some sz) (h0 : 0 ≤ i) (h1 : i < xs.length) :
    idxAddrA P (some (.slice e)) (L f xs) (.int k i) = some (.pp (f (nth xs i.toNat))) := by
  have : i.toNat < xs.length := by omega
  simp [idxAddrA, idxA, h0, h1, this, hz, RowEnc.len (f := f), nth]
theorem idxAddr_sl (e : TypeId) (id off n sz : Nat) (k : IntKind) (i : Int) (hz : isz P e = some sz) (h0 : 0 ≤ i) (h1 : i < n) :
    idxAddrA P (some (.slice e)) (.sl id off n sz) (.int k i) = some (.ptr id (off + i.toNat * sz)) := by
  simp [idxAddrA, idxA, h0, h1, hz]
theorem idxAddr_arr (e : TypeId) (id off n : Nat) (k : IntKind) (i : Int) (h0 : 0 ≤ i) (h1 : i < n) :
    idxAddrA P (some (.array n e)) (.ptr id off) (.int k i) = (isz P e).map fun sz => .ptr id (off + i.toNat * sz) := by
  simp [idxAddrA, idxA, h0, h1]
theorem idxAddr_parr (e : TypeId) (cs : List AV) (n : Nat) (k : IntKind) (i : Int) (h0 : 0 ≤ i) (h1 : i < n) :
    idxAddrA P (some (.array n e)) (.pp cs) (.int k i) = (isz P e).map fun sz => .pp (cs.drop (i.toNat * sz)) := by
  simp [idxAddrA, idxA, h0, h1]

/-! ### Loads and stores -/
def loadB (u : Option TypeDesc) (s : Option Nat) (cs : List AV) (off : Nat) : Option AV :=
  match u, s with
  | some d, some n => if aggD d then (if off + n ≤ cs.length then some (.agg ((cs.drop off).take n)) else none) else cs[off]?
  | _, _ => none
theorem loadA_B (t : TypeId) (cs : List AV) (off : Nat) : loadA P t cs off = loadB (P.underlying t) (isz P t) cs off := rfl
/-- What stands where a pointer points. -/
def cellsAt (lim : Option Nat) (h : Hp) : AV → Option (List AV × Nat)
  | .pp cs => some (cs, 0)
  | .ptr id off => (rd h lim id).map fun flat => (flat, off)
  | _ => none
def loadC (u : Option TypeDesc) (s : Option Nat) (r : Option (List AV × Nat)) : Option AV := r.bind fun x => loadB u s x.1 x.2
@[go_sem ↓] theorem W_load (t : TypeId) (p : Operand) : StepW P cfg ops lim (.load t p) st h K = getW (loadC (P.underlying t) (isz P t) (cellsAt lim h (ev st p))) h K := by
  refine StepW_readOp ?_ rfl rfl rfl fun _ => rfl
  simp only [opRead, loadC, cellsAt, loadA_B]
  cases ev st p <;> try rfl
  rename_i id off
  simp only
  cases rd h lim id <;> rfl
@[go_sem] theorem cellsAt_pp (cs : List AV) : cellsAt lim h (.pp cs) = some (cs, 0) := rfl
def rdB (b : Option Blk) (l : Bool) (off : Nat) : Option (List AV × Nat) := match b with | some (.cells _ _ flat) => if l then some (flat, off) else none | _ => none
@[go_sem] theorem cellsAt_ptr (id off : Nat) : cellsAt lim h (.ptr id off) = rdB (h.bl id) (lims lim id) off := by
  simp only [cellsAt, rd, rdB]
  cases h.bl id with
  | none => rfl
  | some b => cases b <;> first | rfl | (simp only; split <;> rfl)
@[go_sem] theorem rdB_cells (fz row : Bool) (flat : List AV) (off : Nat) : rdB (some (.cells fz row flat)) true off = some (flat, off) := rfl
@[go_sem] theorem lims_none (id : Nat) : lims none id = true := rfl
@[go_sem] theorem lims_some (l id : Nat) (hl : id < l) : lims (some l) id = true := by simp [lims, hl]

theorem loadC_one (d : TypeDesc) (n : Nat) (hd : aggD d = false) (cs : List AV) (off : Nat) : loadC (some d) (some n) (some (cs, off)) = cs[off]? := by
  simp [loadC, loadB, hd]
@[go_sem] theorem loadC_int (k : IntKind) (n : Nat) (cs : List AV) (off : Nat) : loadC (some (.int k)) (some n) (some (cs, off)) = cs[off]? := loadC_one _ _ rfl _ _
@[go_sem] theorem loadC_bool (n : Nat) (cs : List AV) (off : Nat) : loadC (some .bool) (some n) (some (cs, off)) = cs[off]? := loadC_one _ _ rfl _ _
@[go_sem] theorem loadC_slice (e : TypeId) (n : Nat) (cs : List AV) (off : Nat) : loadC (some (.slice e)) (some n) (some (cs, off)) = cs[off]? := loadC_one _ _ rfl _ _
@[go_sem] theorem loadC_agg (d : TypeDesc) (n : Nat) (hd : aggD d = true) (cs : List AV) (off : Nat) (hl : off + n ≤ cs.length) : loadC (some d) (some n) (some (cs, off)) = some (.agg ((cs.drop off).take n)) := by
  simp [loadC, loadB, hd, hl]
@[go_sem] theorem aggD_int (k : IntKind) : aggD (.int k) = false := rfl
@[go_sem] theorem aggD_bool : aggD .bool = false := rfl
@[go_sem] theorem aggD_slice (e : TypeId) : aggD (.slice e) = false := rfl
@[go_sem] theorem aggD_map (k e : TypeId) : aggD (.map k e) = false := rfl
@[go_sem] theorem aggD_struct (fs : Array Field) : aggD (.struct fs) = true := rfl
@[go_sem] theorem aggD_array (n : Nat) (e : TypeId) : aggD (.array n e) = true := rfl

def storeB (h : Hp) (s : Option Nat) (p x : AV) : Option (AV × Hp) :=
  match p, s with
  | .ptr id off, some sz => match h.bl id with
    | some (.cells false row flat) =>
      if x.cells.length = sz ∧ off + sz ≤ flat.length ∧ x.cells.all AV.isCell then some (.skp, h.put id (some (.cells false row (setL flat off x.cells)))) else none
    | _ => none
  | _, _ => none
@[go_sem ↓] theorem W_store (t : TypeId) (p x : Operand) : StepW P cfg ops lim (.store t p x) st h K = getW2 (storeB h (isz P t) (ev st p) (ev st x)) K :=
  StepW_writeOp rfl rfl rfl rfl fun _ => rfl
def storeC (h : Hp) (id off sz : Nat) (b : Option Blk) (cs : List AV) : Option (AV × Hp) :=
  match b with
  | some (.cells false row flat) => if cs.length = sz ∧ off + sz ≤ flat.length ∧ cs.all AV.isCell then some (.skp, h.put id (some (.cells false row (setL flat off cs)))) else none
  | _ => none
@[go_sem] theorem storeB_ptr (id off sz : Nat) (x : AV) : storeB h (some sz) (.ptr id off) x = storeC h id off sz (h.bl id) x.cells := rfl
@[go_sem] theorem cells_int (k : IntKind) (n : Int) : (AV.int k n).cells = [.int k n] := rfl
@[go_sem] theorem cells_bool (b : Bool) : (AV.bool b).cells = [.bool b] := rfl
@[go_sem] theorem cells_lst (xs : List (List AV)) : (AV.lst xs).cells = [.lst xs] := rfl
@[go_sem] theorem cells_nil : AV.nil.cells = [.nil] := rfl
@[go_sem] theorem cells_sl (id off n sz : Nat) : (AV.sl id off n sz).cells = [.sl id off n sz] := rfl
@[go_sem] theorem cells_agg (cs : List AV) : (AV.agg cs).cells = cs := rfl
@[go_sem] theorem cells_fn (f : FuncId) (cs : List AV) : (AV.fn f cs).cells = [.fn f cs] := rfl
@[go_sem] theorem cells_mp (id : Nat) : (AV.mp id).cells = [.mp id] := rfl
@[go_sem] theorem cells_nilmp : AV.nilmp.cells = [.nilmp] := rfl
@[go_sem] theorem cells_nilfn : AV.nilfn.cells = [.nilfn] := rfl
@[go_sem] theorem isCell_int (k : IntKind) (n : Int) : (AV.int k n).isCell = true := rfl
@[go_sem] theorem isCell_bool (b : Bool) : (AV.bool b).isCell = true := rfl
@[go_sem] theorem isCell_lst (xs : List (List AV)) : (AV.lst xs).isCell = true := rfl
@[go_sem] theorem isCell_nil : AV.nil.isCell = true := rfl
@[go_sem] theorem isCell_sl (id off n sz : Nat) : (AV.sl id off n sz).isCell = true := rfl
@[go_sem] theorem isCell_fn (f : FuncId) (cs : List AV) : (AV.fn f cs).isCell = true := rfl
@[go_sem] theorem isCell_mp (id : Nat) : (AV.mp id).isCell = true := rfl
@[go_sem] theorem isCell_nilmp : AV.nilmp.isCell = true := rfl
@[go_sem] theorem isCell_nilfn : AV.nilfn.isCell = true := rfl
@[go_sem] theorem isCell_ptr (id off : Nat) : (AV.ptr id off).isCell = true := rfl
@[go_sem] theorem isCell_pp (cs : List AV) : (AV.pp cs).isCell = true := rfl
@[go_sem] theorem storeC_one (id off : Nat) (row : Bool) (flat : List AV) (x : AV) (hx : x.isCell = true) (hl : off < flat.length) :
    storeC h id off 1 (some (.cells false row flat)) [x] = some (.skp, h.put id (some (.cells false row (flat.set off x)))) := by
  simp [storeC, hx, setL, Nat.succ_le_of_lt hl]
theorem storeC_many (id off sz : Nat) (row : Bool) (flat : List AV) (xs : List AV) (hn : xs.length = sz) (hx : xs.all AV.isCell = true) (hl : off + sz ≤ flat.length) :
    storeC h id off sz (some (.cells false row flat)) xs = some (.skp, h.put id (some (.cells false row (setL flat off xs)))) := by
  simp [storeC, hx, hn, hl]

/-! ### Memory, as it is written down -/
@[go_sem ↓] theorem hp_put_bl (h : Hp) (id : Nat) (b : Option Blk) (i : Nat) : (h.put id b).bl i = if i = id then b else h.bl i := rfl
@[go_sem ↓] theorem hp_alloc_bl (h : Hp) (b : Blk) (i : Nat) : (h.alloc b).bl i = if i = h.nx then some b else h.bl i := rfl
@[go_sem ↓] theorem hp_put_nx (h : Hp) (id : Nat) (b : Option Blk) : (h.put id b).nx = h.nx := rfl
@[go_sem ↓] theorem hp_alloc_nx (h : Hp) (b : Blk) : (h.alloc b).nx = h.nx + 1 := rfl
@[go_sem] theorem empty_nx : Hp.empty.nx = 0 := rfl
@[go_sem] theorem empty_bl (i : Nat) : Hp.empty.bl i = none := rfl

/-! ### New memory -/
def allocB (h : Hp) (z : Option AV) : Option (AV × Hp) := z.bind fun z => if z.cells.all AV.isCell then some (.ptr h.nx 0, h.alloc (.cells false false z.cells)) else none
@[go_sem ↓] theorem W_alloc (e : TypeId) : StepW P cfg ops lim (.alloc e) st h K = getW2 (allocB h (izero P e)) K :=
  StepW_newOp rfl rfl rfl rfl fun _ => rfl
theorem allocB_some (z : AV) (hz : z.cells.all AV.isCell = true) : allocB h (some z) = some (.ptr h.nx 0, h.alloc (.cells false false z.cells)) := by simp only [allocB, Option.bind_some, hz, if_true]
@[go_sem] theorem allocB_int (k : IntKind) (n : Int) : allocB h (some (.int k n)) = some (.ptr h.nx 0, h.alloc (.cells false false [.int k n])) := rfl
@[go_sem] theorem allocB_bool (b : Bool) : allocB h (some (.bool b)) = some (.ptr h.nx 0, h.alloc (.cells false false [.bool b])) := rfl
@[go_sem] theorem allocB_lst (xs : List (List AV)) : allocB h (some (.lst xs)) = some (.ptr h.nx 0, h.alloc (.cells false false [.lst xs])) := rfl
@[go_sem] theorem allocB_nil : allocB h (some .nil) = some (.ptr h.nx 0, h.alloc (.cells false false [.nil])) := rfl
@[go_sem] theorem allocB_nilmp : allocB h (some .nilmp) = some (.ptr h.nx 0, h.alloc (.cells false false [.nilmp])) := rfl
@[go_sem] theorem allocB_nilfn : allocB h (some .nilfn) = some (.ptr h.nx 0, h.alloc (.cells false false [.nilfn])) := rfl
@[go_sem] theorem allocB_agg (cs : List AV) (hc : cs.all AV.isCell = true) : allocB h (some (.agg cs)) = some (.ptr h.nx 0, h.alloc (.cells false false cs)) := allocB_some _ hc
@[go_sem] theorem cell_nil : ([] : List AV).all AV.isCell = true := rfl
@[go_sem] theorem cell_cons (c : AV) (cs : List AV) : (c :: cs).all AV.isCell = (c.isCell && cs.all AV.isCell) := rfl
@[go_sem] theorem pureL_nil : AV.pureL [] = true := rfl
@[go_sem] theorem pureL_cons (c : AV) (cs : List AV) : AV.pureL (c :: cs) = (c.isPure && AV.pureL cs) := rfl
@[go_sem] theorem isPure_int (k : IntKind) (n : Int) : (AV.int k n).isPure = true := rfl
@[go_sem] theorem isPure_bool (b : Bool) : (AV.bool b).isPure = true := rfl
@[go_sem] theorem isPure_nil : AV.nil.isPure = true := rfl
@[go_sem] theorem isPure_nilfn : AV.nilfn.isPure = true := rfl
@[go_sem] theorem isPure_agg (cs : List AV) : (AV.agg cs).isPure = AV.pureL cs := rfl
@[go_sem ↓] theorem W_box (e : TypeId) (x : Operand) : StepW P cfg ops lim (.box e x) st h K = getW2 (allocB h (some (ev st x))) K :=
  StepW_newOp rfl rfl rfl rfl fun _ => rfl
def makeB (P : Program) (h : Hp) (u : Option TypeDesc) (l c : AV) : Option (AV × Hp) :=
  match u, l, c with
    | some (.slice e), .int .i64 m, .int .i64 m' => match isz P e, ibytes P e, izero P e with
      | some sz, some by_, some z =>
        if 0 ≤ m ∧ m' = m ∧ 0 < sz ∧ m * by_ ≤ 281474976710656 ∧ m ≤ 281474976710656 ∧ z.cells.length = sz ∧ z.cells.all AV.isCell then
          some (.sl h.nx 0 m.toNat sz, h.alloc (.cells false true ((List.replicate m.toNat z.cells).flatten))) else none
      | _, _, _ => none
    | _, _, _ => none
@[go_sem ↓] theorem W_makeSlice (t : TypeId) (l c : Operand) : StepW P cfg ops lim (.makeSlice t l c) st h K = getW2 (makeB P h (P.underlying t) (ev st l) (ev st c)) K :=
  StepW_newOp rfl rfl rfl rfl fun _ => rfl
theorem makeB_int (e : TypeId) (m : Int) (hs : isz P e = some 1) (hb : ibytes P e = some 8) (hz : izero P e = some (I 0)) (h0 : 0 ≤ m) (h1 : m ≤ 35184372088832) :
    makeB P h (some (.slice e)) (I m) (I m) = some (.sl h.nx 0 m.toNat 1, h.alloc (.cells false true ((List.replicate m.toNat (0 : Int)).flatMap (e1 I)))) := by
  have e2 : (List.replicate m.toNat [I 0]).flatten = (List.replicate m.toNat (0 : Int)).flatMap (e1 I) := by
    rw [List.flatMap_def, List.map_replicate]; rfl
  simp only [makeB, hs, hb, hz, AV.cells]
  rw [if_pos (by refine ⟨h0, trivial, by decide, by omega, by omega, rfl, rfl⟩), e2]
theorem makeB_sl (e : TypeId) (m : Int) (hs : isz P e = some 1) (hb : ibytes P e = some 24) (hz : izero P e = some .nil) (h0 : 0 ≤ m) (h1 : m ≤ 1099511627776) :
    makeB P h (some (.slice e)) (I m) (I m) = some (.sl h.nx 0 m.toNat 1, h.alloc (.cells false true (List.replicate m.toNat .nil))) := by
  have e2 : (List.replicate m.toNat [AV.nil]).flatten = List.replicate m.toNat AV.nil := by
    induction m.toNat with
    | zero => rfl
    | succ n ih => rw [List.replicate_succ, List.flatten_cons, ih, List.replicate_succ]; rfl
  simp only [makeB, hs, hb, hz, AV.cells]
  rw [if_pos (by refine ⟨h0, trivial, by decide, by omega, by omega, rfl, rfl⟩), e2]

def bsB (P : Program) (h : Hp) (u : Option TypeDesc) (len : Nat) (ps : List (Nat × AV)) : Option (AV × Hp) :=
  match u with
    | some (.slice e) => match isz P e, izero P e with
      | some sz, some z =>
        if len = 0 ∧ ps = [] ∧ 0 < sz then some (.sl h.nx 0 0 sz, h.alloc (.cells false true [])) else
        if 0 < sz ∧ len * sz ≤ 4096 ∧ z.cells.length = sz ∧ z.cells.all AV.isCell ∧ AV.pureL z.cells then
          (sealArgs h (ps.map (·.2))).bind fun (vs, h') =>
            if vs.all (fun v => v.cells.all AV.isCell) then (fillA (fun i => some (i * sz, sz)) (List.replicate len z.cells).flatten ((ps.map (·.1)).zip vs)).bind fun cs =>
              if AV.pureL cs then some (.lst (chunk sz cs), h') else none else none
        else none
      | _, _ => none
    | _ => none
@[go_sem ↓] theorem W_buildSlice (t : TypeId) (len : Nat) (parts : Array (Nat × Operand)) (hd : cfg.deep = false) :
    StepW P cfg ops lim (.buildSlice t len parts) st h K = getW2 (bsB P h (P.underlying t) len (parts.toList.map fun p => (p.1, ev st p.2))) K := by
  refine StepW_newOp ?_ rfl rfl rfl fun _ => rfl
  have e : (parts.toList.map fun p => (p.1, ev st p.2)) = [] ↔ parts = #[] := by simp
  simp only [opNew, bsB, List.map_map, Function.comp_def, e, hd, Bool.false_eq_true, if_false]
  rfl
/-- One part, one cell: a slice of one. -/
theorem bsB_one (e : TypeId) (x x' z : AV) (h' : Hp) (hs : isz P e = some 1) (hz : izero P e = some z) (hzl : z.cells = [z]) (hzc : z.isCell = true) (hzp : z.isPure = true)
    (hx : sealA h x = some (x', h')) (hxl : x'.cells = [x']) (hxc : x'.isCell = true) (hxp : x'.isPure = true) :
    bsB P h (some (.slice e)) 1 [(0, x)] = some (.lst [[x']], h') := by
  have e2 : fillA (fun i => some (i * 1, 1)) [z] [(0, x')] = some [x'] := by
    simp [fillA, hxl, setL]
  have n1 : ¬ ((1 : Nat) = 0 ∧ [(0, x)] = [] ∧ 0 < 1) := fun h => by cases h.1
  simp only [bsB, hs, hz, hzl, if_neg n1, List.length_singleton, List.all_cons, hzc, List.all_nil, Bool.and_true, AV.pureL, hzp, List.map_cons, List.map_nil, sealArgs, hx, Option.bind_some, Option.map_some, hxl, hxc,
    List.replicate_one, List.flatten_cons, List.flatten_nil, List.append_nil, List.zip_cons_cons, List.zip_nil_right, e2, hxp]
  rfl
end
end Go.Am

