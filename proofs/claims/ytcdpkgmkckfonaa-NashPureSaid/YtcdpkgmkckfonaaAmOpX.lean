/-
  Rules for single operations, more of them: calls, append, slices of slices, structs, maps, closures.
-/
import Derived.Test.YtcdpkgmkckfonaaAmOpW
set_option linter.unusedVariables false
set_option linter.unusedSimpArgs false
namespace Go.Am
open Go

section
variable {P : Program} {cfg : Cfg} {st : St} {h : Hp} {ops : Array Oper} {lim : Option Nat} {K : AV → Hp → Prop}

def convB (s d : Option TypeDesc) (x : AV) : Option AV := match s, d, x with | some _, some (.int k), .int _ n => some (.int k (k.wrap n)) | _, _, _ => none
@[go_sem] theorem convB_int (s : TypeDesc) (k j : IntKind) (n : Int) : convB (some s) (some (.int k)) (.int j n) = some (.int k (k.wrap n)) := rfl

@[go_sem ↓] theorem W_min (args : Array Operand) (ts : Array TypeId) : StepW P cfg ops lim (.call ⟨.builtin .min, args, ts⟩) st h K = getW (minA (args.toList.map (ev st))) h K :=
  StepW_pureOp rfl rfl rfl rfl fun _ => rfl
@[go_sem ↓] theorem W_max (args : Array Operand) (ts : Array TypeId) : StepW P cfg ops lim (.call ⟨.builtin .max, args, ts⟩) st h K = getW (maxA (args.toList.map (ev st))) h K :=
  StepW_pureOp rfl rfl rfl rfl fun _ => rfl
@[go_sem] theorem minA_two (k j : IntKind) (a b : Int) : minA [.int k a, .int j b] = some (.int k (min a b)) := by
  have : (if b < a then b else a) = min a b := by omega
  simp [minA, this]
@[go_sem] theorem maxA_two (k j : IntKind) (a b : Int) : maxA [.int k a, .int j b] = some (.int k (max a b)) := by
  have : (if a < b then b else a) = max a b := by omega
  simp [maxA, this]

def extA (x : AV) (i : Nat) : Option AV := match x with | .tup vs => vs[i]? | _ => none
@[go_sem ↓] theorem W_extract (x : Operand) (i : Nat) : StepW P cfg ops lim (.extract x i) st h K = getW (extA (ev st x) i) h K :=
  StepW_pureOp rfl rfl rfl rfl fun _ => rfl
@[go_sem] theorem extA_tup (vs : List AV) (i : Nat) : extA (.tup vs) i = vs[i]? := rfl

@[go_sem ↓] theorem W_makeFunc (f : FuncId) (caps : Array Operand) : StepW P cfg ops lim (.makeFunc (.func f) #[] caps) st h K = K (.fn f (caps.toList.map (ev st))) h := (StepW_of (fun _ => rfl)).trans (getW2_some _)

def fldAddrA (P : Program) (u : Option TypeDesc) (x : AV) (f : Nat) : Option AV :=
  match u with
    | some (.struct fs) => match fs[f]?, x with
      | some fd, .ptr id off => if (isz P fd.type).getD 0 = 0 then none else some (.ptr id (off + fd.offset))
      | some fd, .pp cs => if (isz P fd.type).getD 0 = 0 then none else some (.pp (cs.drop fd.offset))
      | _, _ => none
    | _ => none
@[go_sem ↓] theorem W_fieldAddr (s : TypeId) (x : Operand) (f : Nat) : StepW P cfg ops lim (.fieldAddr s x f) st h K = getW (fldAddrA P (P.underlying s) (ev st x) f) h K :=
  StepW_pureOp rfl rfl rfl rfl fun _ => rfl
@[go_sem] theorem fldAddr_ptr (fs : Array Field) (id off f : Nat) : fldAddrA P (some (.struct fs)) (.ptr id off) f = (fs[f]?).bind fun fd => if (isz P fd.type).getD 0 = 0 then none else some (.ptr id (off + fd.offset)) := by
  simp only [fldAddrA]; cases fs[f]? <;> rfl
def idxV (P : Program) (u : Option TypeDesc) (x i : AV) : Option AV :=
  match u, x with
    | some (.array n e), .agg cs => (idxA i n).bind fun j => (isz P e).bind fun sz => partA P e cs (j * sz)
    | _, _ => none
theorem idxV_arr (n : Nat) (e : TypeId) (cs : List AV) (k : IntKind) (i : Int) (h0 : 0 ≤ i) (h1 : i < n) :
    idxV P (some (.array n e)) (.agg cs) (.int k i) = (isz P e).bind fun sz => loadC (P.underlying e) (isz P e) (some (cs, i.toNat * sz)) := by
  simp only [idxV, idxA, h0, h1, and_self, if_true, Option.bind_some]
  rfl

def nilChkA (x : AV) : Option AV := match x with | .ptr id off => some (.ptr id off) | .pp cs => some (.pp cs) | _ => none
@[go_sem ↓] theorem W_nilCheck (x : Operand) : StepW P cfg ops lim (.nilCheck x) st h K = getW (nilChkA (ev st x)) h K :=
  StepW_pureOp rfl rfl rfl rfl fun _ => rfl
@[go_sem] theorem nilChkA_ptr (id off : Nat) : nilChkA (.ptr id off) = some (.ptr id off) := rfl
@[go_sem] theorem nilChkA_pp (cs : List AV) : nilChkA (.pp cs) = some (.pp cs) := rfl

/-! ### Slices of slices -/
def loB (lo : Option AV) (h : Nat) : Option Nat := match lo with | some x => boundA x h | none => some 0
def hiB (hi : Option AV) (n : Nat) : Option Nat := match hi with | some x => boundA x n | none => some n
def sliceB (P : Program) (u : Option TypeDesc) (x : AV) (lo hi : Option AV) (h : Hp) (lim : Option Nat) : Option AV :=
  match u, x with
    | some (.slice e), .lst xs => (hiB hi xs.length).bind fun b => (loB lo b).bind fun a => match isz P e with | some sz => if xs.all (fun y => y.length == sz) then some (.lst ((xs.take b).drop a)) else none | none => none
    | some (.slice e), .sl id off n sz => (hiB hi n).bind fun b => (loB lo b).bind fun a => if isz P e = some sz ∧ 0 < sz then some (.sl id (off + a * sz) (b - a) sz) else none
    | some (.array n e), .ptr id off => (hiB hi n).bind fun b => (loB lo b).bind fun a => match isz P e, h.bl id with
      | some sz, some (.cells _ false flat) => if off + n * sz ≤ flat.length ∧ n ≤ maxLen ∧ lims lim id then some (.sl id (off + a * sz) (b - a) sz) else none
      | _, _ => none
    | _, _ => none
@[go_sem ↓] theorem W_slice (t : TypeId) (x : Operand) (lo hi : Option Operand) : StepW P cfg ops lim (.slice t x lo hi none) st h K = getW (sliceB P (P.underlying t) (ev st x) (lo.map (ev st)) (hi.map (ev st)) h lim) h K := by
  have e1 : ∀ n, loA (ev st) lo n = loB (lo.map (ev st)) n := by intro n; cases lo <;> rfl
  have e2 : ∀ n, hiA (ev st) hi n = hiB (hi.map (ev st)) n := by intro n; cases hi <;> rfl
  cases hu : P.underlying t with
  | none => exact StepW_pureOp (by simp [opPure, hu, sliceB]) (by simp [opRead, hu]) rfl rfl fun _ => rfl
  | some d =>
    cases d
    case slice e =>
      refine StepW_pureOp ?_ (by simp [opRead, hu]) rfl rfl fun _ => rfl
      simp only [opPure, hu, sliceB]
      cases ev st x <;> simp only [e1, e2] <;> rfl
    case array n e =>
      refine StepW_readOp ?_ (by simp [opPure, hu]) rfl rfl fun _ => rfl
      simp only [opRead, hu, sliceB]
      cases ev st x <;> simp only [e1, e2] <;> rfl
    all_goals exact StepW_pureOp (by simp [opPure, hu, sliceB]) (by simp [opRead, hu]) rfl rfl fun _ => rfl
theorem hiB_some (k : IntKind) (i : Int) (n : Nat) (h0 : 0 ≤ i) (h1 : i ≤ n) : hiB (some (.int k i)) n = some i.toNat := by simp [hiB, boundA, h0, h1]
theorem loB_some (k : IntKind) (i : Int) (n : Nat) (h0 : 0 ≤ i) (h1 : i ≤ n) : loB (some (.int k i)) n = some i.toNat := by simp [loB, boundA, h0, h1]
theorem slice_L {α : Type} {f : α → List AV} {sz : Nat} [RowEnc f sz] (e : TypeId) (xs : List α) (lo hi : Option AV) (a b : Nat) (hz : isz P e = some sz) (hb : hiB hi xs.length = some b) (ha : loB lo b = some a) :
    sliceB P (some (.slice e)) (L f xs) lo hi h lim = some (L f ((xs.take b).drop a)) := by
  have : (xs.map f).all (fun y => y.length == sz) = true := by simp [RowEnc.len (f := f)]
  simp only [sliceB, List.length_map, hb, ha, Option.bind_some, hz, this, if_true, ← List.map_take, ← List.map_drop]
theorem slice_L_hi {α : Type} {f : α → List AV} {sz : Nat} [RowEnc f sz] (e : TypeId) (xs : List α) (k : IntKind) (i : Int) (hz : isz P e = some sz) (h0 : 0 ≤ i) (h1 : i ≤ xs.length) :
    sliceB P (some (.slice e)) (L f xs) none (some (.int k i)) h lim = some (L f (xs.take i.toNat)) := by
  rw [slice_L e xs none _ 0 i.toNat hz (hiB_some k i _ h0 h1) rfl, List.drop_zero]
theorem slice_L_lo {α : Type} {f : α → List AV} {sz : Nat} [RowEnc f sz] (e : TypeId) (xs : List α) (k : IntKind) (i : Int) (hz : isz P e = some sz) (h0 : 0 ≤ i) (h1 : i ≤ xs.length) :
    sliceB P (some (.slice e)) (L f xs) (some (.int k i)) none h lim = some (L f (xs.drop i.toNat)) := by
  rw [slice_L e xs _ none i.toNat xs.length hz rfl (loB_some k i _ h0 h1), List.take_length]

/-! ### append -/
def appB (P : Program) (h : Hp) (u : Option TypeDesc) (same : Bool) (s x : AV) : Option (AV × Hp) :=
  match u with
      | some (.slice e) => match isz P e, ibytes P e, izero P e, cellsOf h none x, lenA x with
        | some sz, some by_, some z, some ys, some m =>
          if same = true ∧ 0 < sz ∧ z.cells.length = sz ∧ ys.length = m * sz ∧ ys.all AV.isCell then
            match s with
            | .nil => if m * by_ ≤ 140737488355328 ∧ m ≤ 140737488355328 then some (.sl h.nx 0 m sz, h.alloc (.cells false true ys)) else none
            | .sl id 0 n sz' => match h.bl id with
              | some (.cells false true flat) =>
                if sz' = sz ∧ flat.length = n * sz ∧ (n + m) * by_ ≤ 140737488355328 ∧ n + m ≤ 140737488355328 then
                  some (.sl h.nx 0 (n + m) sz, (h.put id none).alloc (.cells false true (flat ++ ys))) else none
              | _ => none
            | _ => none
          else none
        | _, _, _, _, _ => none
      | _ => none
@[go_sem ↓] theorem W_append (s x : Operand) (t t' : TypeId) : StepW P cfg ops lim (.call ⟨.builtin .append, #[s, x], #[t, t']⟩) st h K = getW2 (appB P h (P.underlying t) (decide (t' = t)) (ev st s) (ev st x)) K := by
  refine StepW_writeOp ?_ rfl ?_ rfl fun _ => rfl
  · simp only [opWrite, appB, List.getElem?_toArray, List.getElem?_cons_zero, List.getElem?_cons_succ, decide_eq_true_eq]
    rfl
  · simp only [opRead]
/-- Onto nothing. -/
theorem app_nil {α : Type} {f : α → List AV} {sz : Nat} [RowEnc f sz] (e : TypeId) (by_ : Nat) (z x : AV) (ys : List α) (hs : isz P e = some sz) (hb : ibytes P e = some by_) (hz : izero P e = some z) (hzl : z.cells.length = sz)
    (hx : cellsOf h none x = some (ys.flatMap f)) (hl : lenA x = some ys.length) (h1 : ys.length * by_ ≤ 140737488355328) (h2 : ys.length ≤ 140737488355328) :
    appB P h (some (.slice e)) true .nil x = some (.sl h.nx 0 ys.length sz, h.alloc (.cells false true (ys.flatMap f))) := by
  have hc : (ys.flatMap f).all AV.isCell = true := List.all_eq_true.2 (flatMap_cell ys)
  simp only [appB, hs, hb, hz, hx, hl]
  rw [if_pos ⟨trivial, RowEnc.pos (f := f), hzl, flatMap_len ys, hc⟩, if_pos ⟨h1, h2⟩]
/-- Onto what is there. -/
theorem app_own {α : Type} {f : α → List AV} {sz : Nat} [RowEnc f sz] (e : TypeId) (by_ : Nat) (z x : AV) (id : Nat) (xs ys : List α) (n : Nat) (hs : isz P e = some sz) (hb : ibytes P e = some by_) (hz : izero P e = some z) (hzl : z.cells.length = sz)
    (hid : h.bl id = some (.cells false true (xs.flatMap f))) (hn : n = xs.length)
    (hx : cellsOf h none x = some (ys.flatMap f)) (hl : lenA x = some ys.length) (h1 : (xs.length + ys.length) * by_ ≤ 140737488355328) (h2 : xs.length + ys.length ≤ 140737488355328) :
    appB P h (some (.slice e)) true (.sl id 0 n sz) x = some (.sl h.nx 0 (xs.length + ys.length) sz, (h.put id none).alloc (.cells false true ((xs ++ ys).flatMap f))) := by
  subst hn
  have hc : (ys.flatMap f).all AV.isCell = true := List.all_eq_true.2 (flatMap_cell ys)
  simp only [appB, hs, hb, hz, hx, hl, hid]
  rw [if_pos ⟨trivial, RowEnc.pos (f := f), hzl, flatMap_len ys, hc⟩, if_pos ⟨trivial, flatMap_len xs, h1, h2⟩, List.flatMap_append]

/-- A slice that is being built: nothing yet, or a block of its own. -/
def Own {α : Type} (f : α → List AV) (sz : Nat) (h : Hp) (v : AV) (xs : List α) : Prop :=
  (v = .nil ∧ xs = []) ∨ ∃ id, v = .sl id 0 xs.length sz ∧ id < h.nx ∧ h.bl id = some (.cells false true (xs.flatMap f))
theorem Own.mono {α : Type} {f : α → List AV} {sz : Nat} {h h' : Hp} {v : AV} {xs : List α} (o : Own f sz h v xs) (hn : h.nx ≤ h'.nx) (hb : ∀ id, id < h.nx → h'.bl id = h.bl id) : Own f sz h' v xs := by
  rcases o with o | ⟨id, e, hi, hc⟩
  · exact .inl o
  · exact .inr ⟨id, e, Nat.lt_of_lt_of_le hi hn, (hb id hi).trans hc⟩
/-- What append makes of it. -/
def appV (h : Hp) (n sz : Nat) : AV := .sl h.nx 0 n sz
def appH (h : Hp) (v : AV) (flat : List AV) : Hp := (match v with | .sl id _ _ _ => h.put id none | _ => h).alloc (.cells false true flat)
theorem app_Own {α : Type} {f : α → List AV} {sz : Nat} [RowEnc f sz] {v : AV} {xs : List α} (o : Own f sz h v xs) (e : TypeId) (by_ : Nat) (z x : AV) (ys : List α) (hs : isz P e = some sz) (hb : ibytes P e = some by_) (hz : izero P e = some z) (hzl : z.cells.length = sz)
    (hx : cellsOf h none x = some (ys.flatMap f)) (hl : lenA x = some ys.length) (h1 : (xs.length + ys.length) * by_ ≤ 140737488355328) (h2 : xs.length + ys.length ≤ 140737488355328) :
    appB P h (some (.slice e)) true v x = some (appV h (xs ++ ys).length sz, appH h v ((xs ++ ys).flatMap f)) := by
  rcases o with ⟨rfl, rfl⟩ | ⟨id, rfl, hi, hc⟩
  · rw [app_nil (f := f) e by_ z x ys hs hb hz hzl hx hl (by simpa using h1) (by simpa using h2)]
    simp [appV, appH]
  · rw [app_own (f := f) e by_ z x id xs ys _ hs hb hz hzl hc rfl hx hl h1 h2]
    simp [appV, appH]
theorem Own.app {α : Type} {f : α → List AV} {sz : Nat} (h : Hp) (v : AV) (xs : List α) : Own f sz (appH h v (xs.flatMap f)) (appV h xs.length sz) xs := by
  refine .inr ⟨h.nx, rfl, ?_, ?_⟩
  · unfold appH
    cases v <;> simp only [alloc_nx, put_nx] <;> omega
  · unfold appH
    cases v <;> simp only [alloc_bl, put_nx, if_true]
theorem appH_nx (h : Hp) (v : AV) (flat : List AV) : (appH h v flat).nx = h.nx + 1 := by
  unfold appH
  cases v <;> rfl
/-- Whatever else lives stays. -/
theorem appH_bl (h : Hp) (v : AV) (flat : List AV) (i : Nat) (hi : i < h.nx) (hv : ∀ id off n sz, v = .sl id off n sz → i ≠ id) : (appH h v flat).bl i = h.bl i := by
  unfold appH
  cases v
  case sl id off n sz =>
    show (if i = h.nx then some _ else if i = id then none else h.bl i) = h.bl i
    rw [if_neg (by omega), if_neg (hv _ _ _ _ rfl)]
  all_goals
    show (if i = h.nx then some _ else h.bl i) = h.bl i
    rw [if_neg (by omega)]

theorem cellsOf_L {α : Type} (f : α → List AV) (xs : List α) : cellsOf h lim (L f xs) = some (xs.flatMap f) := by simp [cellsOf, List.flatMap_def]
theorem lenA_L {α : Type} (f : α → List AV) (xs : List α) : lenA (L f xs) = some xs.length := by simp [lenA]

/-! ### Calls -/
theorem callP_det {f : FuncId} {args : List AV} {k k' : Nat} {r r' : AV} (h1 : callP P cfg k f args = some r) (h2 : callP P cfg k' f args = some r') : r = r' :=
  Option.some.inj ((callP_le (Nat.le_max_left k k') h1).symm.trans (callP_le (Nat.le_max_right k k') h2))
theorem callS_det {f : FuncId} {args : List AV} {k k' : Nat} {r r' : AV × Hp} (h1 : callS P cfg k f args h = some r) (h2 : callS P cfg k' f args h = some r') : r = r' :=
  Option.some.inj ((callS_le (Nat.le_max_left k k') h1).symm.trans (callS_le (Nat.le_max_right k k') h2))

/-- Who is called. -/
def fnW (P : Program) (cfg : Cfg) (f : AV) (args : List AV) (h : Hp) (K : AV → Hp → Prop) : Prop := match f with | .fn g caps => CallW P cfg g (args ++ caps) h K | _ => False
@[go_sem ↓] theorem W_call (f : Operand) (args : Array Operand) (ts : Array TypeId) : StepW P cfg ops lim (.call ⟨.value f, args, ts⟩) st h K = fnW P cfg (ev st f) (args.toList.map (ev st)) h K := by
  apply propE
  · rintro ⟨k, v, g, e, q⟩
    have : stepK P cfg.deep (callO P cfg k) ops lim ⟨none, .call ⟨.value f, args, ts⟩, 0, default, #[], none⟩ st h = (match ev st f with | .fn g caps => callO P cfg k g (args.toList.map (ev st) ++ caps) h | _ => none) := rfl
    rw [this] at e
    unfold fnW
    split at e
    · exact ⟨k, v, _, e, q⟩
    · cases e
  · intro hw
    unfold fnW at hw
    split at hw
    · rename_i g caps hf
      obtain ⟨k, v, h', e, q⟩ := hw
      refine ⟨k, v, h', ?_, q⟩
      have : stepK P cfg.deep (callO P cfg k) ops lim ⟨none, .call ⟨.value f, args, ts⟩, 0, default, #[], none⟩ st h = (match ev st f with | .fn g caps => callO P cfg k g (args.toList.map (ev st) ++ caps) h | _ => none) := rfl
      rw [this, hf]
      exact e
    · exact hw.elim
theorem fnW_congr {f f' : AV} {args args' : List AV} {h h' : Hp} (K : AV → Hp → Prop) (e1 : f = f') (e2 : args = args') (e3 : h = h') : fnW P cfg f args h K = fnW P cfg f' args' h' K := by rw [e1, e2, e3]
theorem CallW_congr (f : FuncId) {args args' : List AV} {h h' : Hp} (K : AV → Hp → Prop) (e2 : args = args') (e3 : h = h') : CallW P cfg f args h K = CallW P cfg f args' h' K := by rw [e2, e3]
@[go_sem] theorem fnW_fn (g : FuncId) (caps args : List AV) : fnW P cfg (.fn g caps) args h K = CallW P cfg g (args ++ caps) h K := rfl

/-- A call with arguments sealed. -/
def ConW (P : Program) (cfg : Cfg) (g : FuncId) (h : Hp) (o : Option (List AV × Hp)) (K : AV → Hp → Prop) : Prop :=
  match o with
  | some (args, h') => ∃ r, Con P cfg g args r ∧ (if r.isScalar then K r h else if r.isFree then K (importR h r).1 (importR h r).2 else K (importR h' r).1 (importR h' r).2)
  | none => False
theorem ConW_congr (g : FuncId) {h h' : Hp} {o o' : Option (List AV × Hp)} (K : AV → Hp → Prop) (e1 : h = h') (e2 : o = o') : ConW P cfg g h o K = ConW P cfg g h' o' K := by rw [e1, e2]
theorem CallW_out (g : FuncId) (args : List AV) (hs : cfg.shared g = false) : CallW P cfg g args h K = ConW P cfg g h (sealArgs h args) K := by
  apply propE
  · rintro ⟨k, v, h', e, q⟩
    cases k with
    | zero => simp [callO] at e
    | succ k =>
      simp only [callO, hs] at e
      rw [if_neg (by simp)] at e
      obtain ⟨⟨as, h1⟩, e1, e2⟩ := Option.bind_eq_some_iff.1 e
      obtain ⟨r, e3, e4⟩ := Option.bind_eq_some_iff.1 e2
      simp only [ConW, e1]
      refine ⟨r, ⟨k, e3⟩, ?_⟩
      split at e4
      · rename_i hsc; rw [if_pos hsc]; cases e4; exact q
      split at e4
      · rename_i hsc hfr; rw [if_neg hsc, if_pos hfr]; simp only [Option.some.injEq] at e4; rw [e4]; exact q
      · rename_i hsc hfr; rw [if_neg hsc, if_neg hfr]; simp only [Option.some.injEq] at e4; rw [e4]; exact q
  · intro hw
    unfold ConW at hw
    split at hw
    · rename_i as h1 e1
      obtain ⟨r, ⟨k, e3⟩, q⟩ := hw
      split at q
      · rename_i hsc
        refine ⟨k + 1, r, h, ?_, q⟩
        simp only [callO, hs, e1, Option.bind_some, e3]
        rw [if_neg (by simp), if_pos hsc]
      split at q
      · rename_i hsc hfr
        refine ⟨k + 1, _, _, ?_, q⟩
        simp only [callO, hs, e1, Option.bind_some, e3]
        rw [if_neg (by simp), if_neg hsc, if_pos hfr]
      · rename_i hsc hfr
        refine ⟨k + 1, _, _, ?_, q⟩
        simp only [callO, hs, e1, Option.bind_some, e3]
        rw [if_neg (by simp), if_neg hsc, if_neg hfr]
    · exact hw.elim
theorem CallW_shr (g : FuncId) (args : List AV) (hs : cfg.shared g = true) {v : AV} {h' : Hp} (hc : Shr P cfg g args h v h') : CallW P cfg g args h K = K v h' := by
  obtain ⟨k, e⟩ := hc
  apply propE
  · rintro ⟨k2, v2, h2, e2, q⟩
    cases k2 with
    | zero => simp [callO] at e2
    | succ k2 =>
      simp only [callO, hs, if_true] at e2
      cases callS_det e e2
      exact q
  · intro q
    exact ⟨k + 1, v, h', by simp only [callO, hs, if_true]; exact e, q⟩

/-- A contract put to use: what comes back is all numbers. -/
theorem ConW_num {g : FuncId} {args : List AV} {r : AV} {h' : Hp} (hc : Con P cfg g args r) (hr : r.isScalar = true) : ConW P cfg g h (some (args, h')) K = K r h := by
  obtain ⟨k, e⟩ := hc
  apply propE
  · rintro ⟨r2, ⟨k2, e2⟩, q⟩
    cases callP_det e e2
    rwa [if_pos hr] at q
  · intro q
    exact ⟨r, ⟨k, e⟩, by rw [if_pos hr]; exact q⟩
theorem ConW_free {g : FuncId} {args : List AV} {r : AV} {h' : Hp} (hc : Con P cfg g args r) (hr : r.isScalar = false) (hf : r.isFree = true) : ConW P cfg g h (some (args, h')) K = K (importR h r).1 (importR h r).2 := by
  obtain ⟨k, e⟩ := hc
  apply propE
  · rintro ⟨r2, ⟨k2, e2⟩, q⟩
    cases callP_det e e2
    rwa [if_neg (by simp [hr]), if_pos hf] at q
  · intro q
    exact ⟨r, ⟨k, e⟩, by rw [if_neg (by simp [hr]), if_pos hf]; exact q⟩
theorem ConW_any {g : FuncId} {args : List AV} {r : AV} {h' : Hp} (hc : Con P cfg g args r) (hr : r.isScalar = false) (hf : r.isFree = false := by rfl) : ConW P cfg g h (some (args, h')) K = K (importR h' r).1 (importR h' r).2 := by
  obtain ⟨k, e⟩ := hc
  apply propE
  · rintro ⟨r2, ⟨k2, e2⟩, q⟩
    cases callP_det e e2
    rwa [if_neg (by simp [hr]), if_neg (by simp [hf])] at q
  · intro q
    exact ⟨r, ⟨k, e⟩, by rw [if_neg (by simp [hr]), if_neg (by simp [hf])]; exact q⟩

/-! Arguments. -/
def sealL (P' : Unit) (o : Option (AV × Hp)) (as : List AV) : Option (List AV × Hp) := o.bind fun (v', h') => (sealArgs h' as).map fun (vs', h'') => (v' :: vs', h'')
def sealT (v : AV) (o : Option (List AV × Hp)) : Option (List AV × Hp) := o.map fun (vs', h'') => (v :: vs', h'')
@[go_sem] theorem sealArgs_nil : sealArgs h [] = some ([], h) := rfl
@[go_sem] theorem sealArgs_cons (v : AV) (vs : List AV) : sealArgs h (v :: vs) = sealL () (sealA h v) vs := rfl
@[go_sem] theorem sealL_some (v : AV) (as : List AV) : sealL () (some (v, h)) as = sealT v (sealArgs h as) := rfl
@[go_sem] theorem sealT_some (v : AV) (as : List AV) : sealT v (some (as, h)) = some (v :: as, h) := rfl
theorem sealA_pure {v : AV} (hp : v.isPure = true) (hn : v ≠ .nil) : sealA h v = some (v, h) := by
  have : sealV0 h v = some (v, h) := by
    unfold sealV0
    rw [if_pos hp]
    split
    · exact absurd rfl hn
    · rfl
  cases v <;> simp only [sealA, hp, if_true] <;> first | rfl | (simp only [sealV]; exact this) | skip
  all_goals simp [AV.isPure] at hp
@[go_sem] theorem sealA_int (k : IntKind) (n : Int) : sealA h (.int k n) = some (.int k n, h) := rfl
@[go_sem] theorem sealA_bool (b : Bool) : sealA h (.bool b) = some (.bool b, h) := rfl
@[go_sem] theorem sealA_nil : sealA h .nil = some (.lst [], h) := rfl
@[go_sem] theorem sealA_L {α : Type} {f : α → List AV} {sz : Nat} [RowEnc f sz] (xs : List α) : sealA h (L f xs) = some (L f xs, h) := sealA_pure (pure_L xs) (by simp)
@[go_sem] theorem sealA_agg (cs : List AV) (hp : AV.pureL cs = true) : sealA h (.agg cs) = some (.agg cs, h) := sealA_pure hp (by simp)
theorem sealA_fn (f : FuncId) (cs : List AV) (hp : AV.pureL cs = true) : sealA h (.fn f cs) = some (.fn f cs, h) := sealA_pure hp (by simp)
@[go_sem] theorem sealA_nilfn : sealA h .nilfn = some (.nilfn, h) := rfl
/-- A live slice. -/
def sealSl (h : Hp) (id off n sz : Nat) (b : Option Blk) : Option (AV × Hp) :=
  match b with
  | some (.cells fz row flat) =>
    if AV.pureL flat then (if off + n * sz ≤ flat.length ∧ 0 < sz then some (.lst (chunk sz ((flat.drop off).take (n * sz))), h.put id (some (.cells true row flat))) else none) else
      sealV h (.sl id off n sz)
  | _ => none
@[go_sem] theorem sealA_sl (id off n sz : Nat) : sealA h (.sl id off n sz) = sealSl h id off n sz (h.bl id) := by
  simp only [sealA, sealV, sealSl]
  cases hb : h.bl id with
  | none => rfl
  | some b =>
    cases b with
    | mp _ => rfl
    | it => rfl
    | cells fz row flat =>
      simp only
      split
      · rename_i hp
        simp only [sealV0, AV.isPure, hb, hp, true_and]
        rfl
      · rfl
theorem sealSl_own {α : Type} {f : α → List AV} {sz : Nat} [RowEnc f sz] (id n : Nat) (fz row : Bool) (xs : List α) (hn : n = xs.length) :
    sealSl h id 0 n sz (some (.cells fz row (xs.flatMap f))) = some (L f xs, h.put id (some (.cells true row (xs.flatMap f)))) := by
  subst hn
  simp only [sealSl]
  rw [if_pos (pureL_flatMap xs), if_pos ⟨by rw [flatMap_len]; omega, RowEnc.pos (f := f)⟩, List.drop_zero, List.take_of_length_le (by rw [flatMap_len]; omega), chunk_flatMap]
/-- Sealed: the block no longer changes; whatever else there is stays. -/
theorem sealA_Own {α : Type} {f : α → List AV} {sz : Nat} [RowEnc f sz] {v : AV} {xs : List α} (o : Own f sz h v xs) : ∃ h', sealA h v = some (L f xs, h') ∧ h'.nx = h.nx ∧ ∀ i, (∀ id off n sz', v = .sl id off n sz' → i ≠ id) → h'.bl i = h.bl i := by
  rcases o with ⟨rfl, rfl⟩ | ⟨id, rfl, hi, hc⟩
  · exact ⟨h, rfl, rfl, fun _ _ => rfl⟩
  · refine ⟨h.put id (some (.cells true true (xs.flatMap f))), by rw [sealA_sl, hc, sealSl_own id _ false true xs rfl], rfl, fun i hne => ?_⟩
    rw [put_bl, if_neg (hne _ _ _ _ rfl)]

/-! ### Functions -/
def RetK (P : Program) (ow kn : Bool) (rs : List ResultVar) (ts : List TypeId) (r : AV) : Exit → St → Hp → Prop := fun x st h => (x = .normal ∨ x = .ret) ∧ ∃ v, resR P h st rs = some v ∧ exportR P ow kn ts h v = some r
theorem Con_intro {f : FuncId} {fn : Func} {args : List AV} {r : AV} (hf : P.funcs[f]? = some fn) (hbody : fn.body.isSome = true) (hok : funcOk cfg fn (fn.body.getD .skip) = true) (hl : args.length ≤ fn.ntmps) (hext : cfg.ext f args = none)
    (hw : WP P cfg (fn.body.getD .skip) (initSt args) Hp.empty (RetK P (cfg.own f) (cfg.keepNil f) fn.results.toList fn.resultTypes.toList r)) : Con P cfg f args r := by
  obtain ⟨body, hb⟩ := Option.isSome_iff_exists.1 hbody
  rw [hb] at hok hw
  simp only [Option.getD_some] at hok hw
  obtain ⟨k, x, st', h', e, hx, v, hv, hr⟩ := hw
  have hS : callS P cfg (k + 1) f args Hp.empty = some (v, h') := by
    simp only [callS, hf, hb]
    rw [if_pos ⟨hok, hl⟩]
    rcases hx with rfl | rfl
    · rw [e]; simp only [hv]; rfl
    · rw [e]; simp only [hv]; rfl
  refine ⟨k + 2, ?_⟩
  simp only [callP, hext, hf, hS, Option.bind_some, hr]
def RetS (P : Program) (rs : List ResultVar) (K : AV → Hp → Prop) : Exit → St → Hp → Prop := fun x st h => (x = .normal ∨ x = .ret) ∧ ∃ v, resR P h st rs = some v ∧ K v h
theorem Shr_intro {f : FuncId} {fn : Func} {args : List AV} {K : AV → Hp → Prop} (hf : P.funcs[f]? = some fn) (hbody : fn.body.isSome = true) (hok : funcOk cfg fn (fn.body.getD .skip) = true) (hl : args.length ≤ fn.ntmps)
    (hw : WP P cfg (fn.body.getD .skip) (initSt args) h (RetS P fn.results.toList K)) : ∃ v h', Shr P cfg f args h v h' ∧ K v h' := by
  obtain ⟨body, hb⟩ := Option.isSome_iff_exists.1 hbody
  rw [hb] at hok hw
  simp only [Option.getD_some] at hok hw
  obtain ⟨k, x, st', h', e, hx, v, hv, hr⟩ := hw
  refine ⟨v, h', ⟨k + 1, ?_⟩, hr⟩
  simp only [callS, hf, hb]
  rw [if_pos ⟨hok, hl⟩]
  rcases hx with rfl | rfl
  · rw [e]; simp only [hv]; rfl
  · rw [e]; simp only [hv]; rfl

/-! What a function answers. -/
@[go_sem] theorem RetK_ret (ow kn : Bool) (rs : List ResultVar) (ts : List TypeId) (r : AV) : RetK P ow kn rs ts r .ret st h = ((resR P h st rs).bind (exportR P ow kn ts h) = some r) := by
  simp [RetK, Option.bind_eq_some_iff]
@[go_sem] theorem resR_one (t : Nat) : resR P h st [.tmp t] = some (st t) := rfl
@[go_sem] theorem resR_two (t u : Nat) : resR P h st [.tmp t, .tmp u] = some (.tup [st t, st u]) := rfl
@[go_sem] theorem resR_three (t u v : Nat) : resR P h st [.tmp t, .tmp u, .tmp v] = some (.tup [st t, st u, st v]) := rfl
@[go_sem] theorem resR_none : resR P h st [] = some (.tup []) := rfl
@[go_sem] theorem export_int (kn : Bool) (t : TypeId) (k : IntKind) (n : Int) : exportR P false kn [t] h (.int k n) = some (.int k n) := by cases kn <;> rfl
@[go_sem] theorem export_bool (kn : Bool) (t : TypeId) (b : Bool) : exportR P false kn [t] h (.bool b) = some (.bool b) := by cases kn <;> rfl
/-- What was built and is handed out for good. -/
theorem export_Own {α : Type} {f : α → List AV} {sz : Nat} [RowEnc f sz] (t : TypeId) {v : AV} {xs : List α} (o : Own f sz h v xs) : exportR P false false [t] h v = some (L f xs) := by
  obtain ⟨h', e, _⟩ := sealA_Own o
  have hv : exportR P false false [t] h v = (exportV P false false t h [] v).bind fun r => if isTup r.1 then none else some r.1 := by
    rcases o with ⟨rfl, rfl⟩ | ⟨id, rfl, hi, hc⟩ <;> rfl
  rw [hv]
  have : exportV P false false t h [] v = some (L f xs, h', []) := by
    unfold exportV
    rw [if_neg (by simp)]
    simp only [e, Option.map_some]
  rw [this]
  rfl
end
attribute [congr] fnW_congr CallW_congr ConW_congr
end Go.Am

