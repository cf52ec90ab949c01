/-
  Rules for stepping through a function by rewriting: code, regions, operations, calls.
-/
import Derived.Test.YtcdpkgmkckfonaaAmWp
set_option linter.unusedVariables false
set_option linter.unusedSimpArgs false
namespace Go.Am
open Go

/-! ### Rows -/
class RowEnc {α : Type} (f : α → List AV) (sz : outParam Nat) : Prop where
  len : ∀ x, (f x).length = sz
  pos : 0 < sz
  cell : ∀ x, ∀ a ∈ f x, a.isCell = true
  pure : ∀ x, AV.pureL (f x) = true

def nth {α : Type} [Inhabited α] (xs : List α) (i : Nat) : α := xs[i]?.getD default

theorem nth_get {α : Type} [Inhabited α] {xs : List α} {i : Nat} (h : i < xs.length) : xs[i]? = some (nth xs i) := by
  simp [nth, h]
theorem nth_getElem {α : Type} [Inhabited α] {xs : List α} {i : Nat} (h : i < xs.length) : nth xs i = xs[i] := by
  simp [nth, h]
theorem list_ext_nth {α : Type} [Inhabited α] {xs ys : List α} (hl : xs.length = ys.length) (h : ∀ j, j < xs.length → nth xs j = nth ys j) : xs = ys := by
  refine List.ext_getElem hl fun j h1 h2 => ?_
  have := h j h1
  rwa [nth_getElem h1, nth_getElem h2] at this
theorem nth_mem {α : Type} [Inhabited α] {xs : List α} {i : Nat} (h : i < xs.length) : nth xs i ∈ xs := by
  rw [nth_getElem h]; exact List.getElem_mem h

theorem pureL_all {cs : List AV} (h : ∀ a ∈ cs, a.isPure = true) : AV.pureL cs = true := by
  induction cs with
  | nil => rfl
  | cons c cs ih => simp only [AV.pureL, Bool.and_eq_true]; exact ⟨h c List.mem_cons_self, ih fun a ha => h a (List.mem_cons_of_mem _ ha)⟩
theorem pureL_flatMap {α : Type} {f : α → List AV} {sz : Nat} [RowEnc f sz] (xs : List α) : AV.pureL (xs.flatMap f) = true := by
  induction xs with
  | nil => rfl
  | cons x xs ih => rw [List.flatMap_cons, pureL_append, RowEnc.pure x, ih]; rfl
theorem pureLL_map {α : Type} {f : α → List AV} {sz : Nat} [RowEnc f sz] (xs : List α) : AV.pureLL (xs.map f) = true := by
  rw [← pureLL_flatten, ← List.flatMap_def]; exact pureL_flatMap xs
theorem pure_L {α : Type} {f : α → List AV} {sz : Nat} [RowEnc f sz] (xs : List α) : (L f xs).isPure = true := by
  simp only [AV.isPure]; exact pureLL_map xs
theorem flatMap_len {α : Type} {f : α → List AV} {sz : Nat} [RowEnc f sz] (xs : List α) : (xs.flatMap f).length = xs.length * sz := by
  induction xs with
  | nil => simp
  | cons x xs ih => rw [List.flatMap_cons, List.length_append, ih, RowEnc.len x, List.length_cons, Nat.add_mul]; omega
theorem flatMap_cell {α : Type} {f : α → List AV} {sz : Nat} [RowEnc f sz] (xs : List α) : ∀ a ∈ xs.flatMap f, a.isCell = true := by
  intro a ha
  obtain ⟨x, _, h⟩ := List.mem_flatMap.1 ha
  exact RowEnc.cell x a h

instance : RowEnc (e1 I) 1 := ⟨fun _ => rfl, by decide, by simp [e1, AV.isCell], fun _ => rfl⟩
instance : RowEnc (e1 AV.bool) 1 := ⟨fun _ => rfl, by decide, by simp [e1, AV.isCell], fun _ => rfl⟩
instance {α : Type} {f : α → List AV} {sz : Nat} [RowEnc f sz] : RowEnc (e1 (L f)) 1 :=
  ⟨fun _ => rfl, by decide, by simp [e1, AV.isCell], fun x => by simp only [e1, AV.pureL, pure_L, Bool.and_self]⟩
instance : RowEnc (e1 LI) 1 := inferInstanceAs (RowEnc (e1 (L (e1 I))) 1)
instance : RowEnc (e1 LLI) 1 := inferInstanceAs (RowEnc (e1 (L (e1 (L (e1 I))))) 1)

/-- Two numbers a row. -/
def eP : Int × Int → List AV := fun p => [I p.1, I p.2]
instance : RowEnc eP 2 := ⟨fun _ => rfl, by decide, by simp [eP, AV.isCell], fun _ => rfl⟩
abbrev LP (xs : List (Int × Int)) : AV := L eP xs

theorem chunk_flatMap {α : Type} {f : α → List AV} {sz : Nat} [RowEnc f sz] (xs : List α) : chunk sz (xs.flatMap f) = xs.map f := by
  have hp := RowEnc.pos (f := f)
  unfold chunk
  rw [if_neg (by omega)]
  have : ∀ (n : Nat), xs.length ≤ n → chunkF sz n (xs.flatMap f) = xs.map f := by
    induction xs with
    | nil => intro n _; cases n <;> rfl
    | cons x xs ih =>
      intro n hn
      cases n with
      | zero => simp at hn
      | succ n =>
        have hlen := RowEnc.len (f := f) x
        rw [List.flatMap_cons]
        cases hfx : f x with
        | nil => rw [hfx] at hlen; simp at hlen; omega
        | cons a as =>
          have h2 : chunkF sz (n + 1) (a :: as ++ xs.flatMap f) = (a :: as ++ xs.flatMap f).take sz :: chunkF sz n ((a :: as ++ xs.flatMap f).drop sz) := rfl
          rw [h2, ← hfx, ← hlen, List.take_left, List.drop_left, hlen, List.map_cons, ih n (by simpa using hn)]
  refine this _ ?_
  rw [flatMap_len (f := f) (sz := sz)]
  exact Nat.le_mul_of_pos_right _ hp

@[go_sem] theorem e1_apply {α : Type} (f : α → AV) (x : α) : e1 f x = [f x] := rfl
@[go_sem] theorem eP_apply (p : Int × Int) : eP p = [I p.1, I p.2] := rfl

/-! ### States -/
@[go_sem ↓] theorem ev_tmp (st : St) (t : Nat) : ev st (.tmp t) = st t := rfl
@[go_sem] theorem ev_int (st : St) (k : IntKind) (n : Int) : ev st (.const (.int k n)) = .int k n := rfl
@[go_sem] theorem ev_bool (st : St) (b : Bool) : ev st (.const (.bool b)) = .bool b := rfl
@[go_sem] theorem ev_nil (st : St) : ev st (.const (.slice none 0 0)) = .nil := rfl
@[go_sem] theorem ev_func (st : St) (f : FuncId) : ev st (.func f) = .fn f [] := rfl
@[go_sem ↓] theorem upd_apply (st : St) (d : Nat) (v : AV) (i : Nat) : upd st d v i = if i = d then v else st i := rfl
@[go_sem] theorem updO_some (st : St) (d : Nat) (v : AV) : updO st (some d) v = upd st d v := rfl
@[go_sem] theorem updO_none (st : St) (v : AV) : updO st none v = st := rfl
def st0 : St := fun _ => .skp
theorem initSt1 (a : AV) : initSt [a] = upd st0 0 a := by
  funext i; simp only [initSt, st0, upd]
  match i with
  | 0 => rfl
  | i + 1 => simp
theorem initSt2 (a b : AV) : initSt [a, b] = upd (upd st0 0 a) 1 b := by
  funext i; simp only [initSt, st0, upd]
  match i with
  | 0 => rfl
  | 1 => rfl
  | i + 2 => simp
theorem initSt3 (a b c : AV) : initSt [a, b, c] = upd (upd (upd st0 0 a) 1 b) 2 c := by
  funext i; simp only [initSt, st0, upd]
  match i with
  | 0 => rfl
  | 1 => rfl
  | 2 => rfl
  | i + 3 => simp
theorem initSt4 (a b c d : AV) : initSt [a, b, c, d] = upd (upd (upd (upd st0 0 a) 1 b) 2 c) 3 d := by
  funext i; simp only [initSt, st0, upd]
  match i with
  | 0 => rfl
  | 1 => rfl
  | 2 => rfl
  | 3 => rfl
  | i + 4 => simp
section
variable {P : Program} {cfg : Cfg} {st st' : St} {h h' : Hp} {Q : Exit → St → Hp → Prop}

/-! ### Code -/
theorem WP_congr (c : Code) (Q : Exit → St → Hp → Prop) (h1 : st = st') (h2 : h = h') : WP P cfg c st h Q = WP P cfg c st' h' Q := by rw [h1, h2]
theorem OpsW_congr (ops : Array Oper) (lim lim' : Option Nat) (os : List Oper) (K : St → Hp → Prop) (h0 : lim = lim') (h1 : st = st') (h2 : h = h') : OpsW P cfg ops lim os st h K = OpsW P cfg ops lim' os st' h' K := by rw [h0, h1, h2]

theorem propE {a b : Prop} (h1 : a → b) (h2 : b → a) : a = b := propext ⟨h1, h2⟩

@[go_sem ↓] theorem WP_skip : WP P cfg .skip st h Q = Q .normal st h :=
  propE (fun ⟨k, x, s, g, e, q⟩ => by cases k <;> simp [run] at e; obtain ⟨rfl, rfl, rfl⟩ := e; exact q) fun q => ⟨1, _, _, _, by simp only [run], q⟩
@[go_sem ↓] theorem WP_exit (id : Nat) : WP P cfg (.exit id) st h Q = Q (.exit id) st h :=
  propE (fun ⟨k, x, s, g, e, q⟩ => by cases k <;> simp [run] at e; obtain ⟨rfl, rfl, rfl⟩ := e; exact q) fun q => ⟨1, _, _, _, by simp only [run], q⟩
@[go_sem ↓] theorem WP_ret : WP P cfg .ret st h Q = Q .ret st h :=
  propE (fun ⟨k, x, s, g, e, q⟩ => by cases k <;> simp [run] at e; obtain ⟨rfl, rfl, rfl⟩ := e; exact q) fun q => ⟨1, _, _, _, by simp only [run], q⟩

@[go_sem ↓] theorem WP_seq (a b : Code) : WP P cfg (.seq a b) st h Q = WP P cfg a st h (SeqK P cfg b Q) := by
  apply propE
  · rintro ⟨k, x, s, g, e, q⟩
    cases k with
    | zero => simp [run] at e
    | succ k =>
      rw [run_seq] at e
      obtain ⟨⟨x1, s1, g1⟩, e1, e2⟩ := Option.bind_eq_some_iff.1 e
      refine ⟨k, x1, s1, g1, e1, ?_⟩
      cases x1 <;> simp only [Option.some.injEq, Prod.mk.injEq] at e2 <;> first
        | exact ⟨k, x, s, g, e2, q⟩
        | (obtain ⟨rfl, rfl, rfl⟩ := e2; exact q)
  · rintro ⟨k, x, s, g, e, q⟩
    cases x with
    | normal =>
      obtain ⟨k2, x2, s2, g2, e2, q2⟩ := q
      refine ⟨max k k2 + 1, x2, s2, g2, ?_, q2⟩
      rw [run_seq, run_le (Nat.le_max_left k k2) e]
      exact run_le (Nat.le_max_right k k2) e2
    | exit j => exact ⟨k + 1, _, s, g, by rw [run_seq, e]; rfl, q⟩
    | ret => exact ⟨k + 1, _, s, g, by rw [run_seq, e]; rfl, q⟩
    | _ => exact ⟨k + 1, _, s, g, by rw [run_seq, e]; rfl, q⟩

@[go_sem ↓] theorem SeqK_normal (b : Code) : SeqK P cfg b Q .normal st h = WP P cfg b st h Q := rfl
@[go_sem ↓] theorem SeqK_exit (b : Code) (j : Nat) : SeqK P cfg b Q (.exit j) st h = Q (.exit j) st h := rfl
@[go_sem ↓] theorem SeqK_ret (b : Code) : SeqK P cfg b Q .ret st h = Q .ret st h := rfl

@[go_sem ↓] theorem WP_block (id : Nat) (b : Code) : WP P cfg (.block id b) st h Q = WP P cfg b st h (BlockK id Q) := by
  apply propE
  · rintro ⟨k, x, s, g, e, q⟩
    cases k with
    | zero => simp [run] at e
    | succ k =>
      rw [run_block] at e
      obtain ⟨⟨x1, s1, g1⟩, e1, e2⟩ := Option.map_eq_some_iff.1 e
      refine ⟨k, x1, s1, g1, e1, ?_⟩
      cases x1 <;> simp only [Prod.mk.injEq] at e2 <;> (obtain ⟨rfl, rfl, rfl⟩ := e2; exact q)
  · rintro ⟨k, x, s, g, e, q⟩
    cases x <;> exact ⟨k + 1, _, s, g, by rw [run_block, e]; rfl, q⟩

@[go_sem ↓] theorem BlockK_normal (id : Nat) : BlockK id Q .normal st h = Q .normal st h := rfl
@[go_sem ↓] theorem BlockK_exit (id j : Nat) : BlockK id Q (.exit j) st h = Q (if j = id then .normal else .exit j) st h := rfl
@[go_sem ↓] theorem BlockK_ret (id : Nat) : BlockK id Q .ret st h = Q .ret st h := rfl

theorem condW_congr {v v' : AV} (A B : Prop) (hv : v = v') : condW v A B = condW v' A B := by rw [hv]
@[go_sem ↓] theorem WP_cond (c : Operand) (a b : Code) : WP P cfg (.cond c a b) st h Q = condW (ev st c) (WP P cfg a st h Q) (WP P cfg b st h Q) := by
  apply propE
  · rintro ⟨k, x, s, g, e, q⟩
    cases k with
    | zero => simp [run] at e
    | succ k =>
      rw [run_cond] at e
      split at e
      · rename_i t ht
        rw [ht]
        cases t
        · exact ⟨k, x, s, g, e, q⟩
        · exact ⟨k, x, s, g, e, q⟩
      · cases e
  · intro hc
    unfold condW at hc
    split at hc
    · rename_i ht
      obtain ⟨k, x, s, g, e, q⟩ := hc
      exact ⟨k + 1, x, s, g, by rw [run_cond, ht]; exact e, q⟩
    · rename_i ht
      obtain ⟨k, x, s, g, e, q⟩ := hc
      exact ⟨k + 1, x, s, g, by rw [run_cond, ht]; exact e, q⟩
    · exact hc.elim
@[go_sem] theorem condW_true (A B : Prop) : condW (.bool true) A B = A := rfl
@[go_sem] theorem condW_false (A B : Prop) : condW (.bool false) A B = B := rfl
theorem condW_dec {p : Prop} {_ : Decidable p} {A B : Prop} (ha : p → A) (hb : ¬ p → B) : condW (.bool (decide p)) A B := by
  by_cases h : p
  · rw [decide_eq_true h]; exact ha h
  · rw [decide_eq_false h]; exact hb h
/-- Round after round. -/
theorem WP_loop {b : Code} (Inv : Nat → St → Hp → Prop) (n : Nat) (h0 : Inv n st h)
    (step : ∀ n st h, Inv n st h → WP P cfg b st h fun x st' h' => match x with | .normal => ∃ m, m < n ∧ Inv m st' h' | x => Q x st' h') : WP P cfg (.loop b) st h Q := by
  have : ∀ (n : Nat) st h, Inv n st h → WP P cfg (.loop b) st h Q := by
    intro n
    induction n using Nat.strongRecOn with
    | _ n ih =>
      intro st h hi
      obtain ⟨k, x, s, g, e, q⟩ := step n st h hi
      cases x with
      | normal =>
        obtain ⟨m, hm, hi2⟩ := q
        obtain ⟨k2, x2, s2, g2, e2, q2⟩ := ih m hm s g hi2
        refine ⟨max k k2 + 1, x2, s2, g2, ?_, q2⟩
        rw [run_loop, run_le (Nat.le_max_left k k2) e]
        exact run_le (Nat.le_max_right k k2) e2
      | exit j => exact ⟨k + 1, _, s, g, by rw [run_loop, e]; rfl, q⟩
      | ret => exact ⟨k + 1, _, s, g, by rw [run_loop, e]; rfl, q⟩
      | _ => exact ⟨k + 1, _, s, g, by rw [run_loop, e]; rfl, q⟩
  exact this n st h h0

/-- What a round of a loop must come to. -/
def LoopK (Inv : Nat → St → Hp → Prop) (n : Nat) (Q : Exit → St → Hp → Prop) : Exit → St → Hp → Prop := fun x st' h' => match x with | .normal => ∃ m, m < n ∧ Inv m st' h' | x => Q x st' h'
theorem LoopK_normal (Inv : Nat → St → Hp → Prop) (n : Nat) : LoopK Inv n Q .normal st h = ∃ m, m < n ∧ Inv m st h := rfl
@[go_sem ↓] theorem LoopK_exit (Inv : Nat → St → Hp → Prop) (n j : Nat) : LoopK Inv n Q (.exit j) st h = Q (.exit j) st h := rfl
@[go_sem ↓] theorem LoopK_ret (Inv : Nat → St → Hp → Prop) (n : Nat) : LoopK Inv n Q .ret st h = Q .ret st h := rfl
theorem WP_loopK {b : Code} (Inv : Nat → St → Hp → Prop) (n : Nat) (h0 : Inv n st h)
    (step : ∀ n st h, Inv n st h → WP P cfg b st h (LoopK Inv n Q)) : WP P cfg (.loop b) st h Q := WP_loop Inv n h0 step

/-- Less may be asked. -/
theorem WP_mono {c : Code} {R : Exit → St → Hp → Prop} (hw : WP P cfg c st h R) (hq : ∀ x s g, R x s g → Q x s g) : WP P cfg c st h Q := by
  obtain ⟨k, x, s, g, e, q⟩ := hw
  exact ⟨k, x, s, g, e, hq _ _ _ q⟩

theorem regW_congr {b b' : Bool} (A B : Prop) (h : b = b') : regW b A B = regW b' A B := by rw [h]
@[go_sem] theorem regW_t (A B : Prop) : regW true A B = A := rfl
@[go_sem] theorem regW_f (A B : Prop) : regW false A B = B := by simp [regW]
theorem WP_region (id : Nat) (ops : Array Oper) (draw : Bool) : WP P cfg (.region id ops draw) st h Q =
    regW (draw && cfg.strict id ops.size) (OpsS P cfg ops (okIds h.nx (wrIds ops st ++ wrX (cfg.wr id ops.size) st)) ops.toList st h (RegK Q)) (OpsW P cfg ops (if draw then some h.nx else none) ops.toList st h (RegK Q)) := by
  apply propE
  · rintro ⟨k, x, s, g, e, q⟩
    cases k with
    | zero => simp [run] at e
    | succ k =>
      rw [run_region] at e
      obtain ⟨⟨s1, g1⟩, e1, e2⟩ := Option.map_eq_some_iff.1 e
      simp only [Prod.mk.injEq] at e2
      obtain ⟨rfl, rfl, rfl⟩ := e2
      unfold regW
      split at e1
      · rename_i hc; rw [if_pos hc]; exact ⟨k, s1, g1, e1, q⟩
      · rename_i hc; rw [if_neg hc]; exact ⟨k, s1, g1, e1, q⟩
  · unfold regW
    split
    · rename_i hc
      rintro ⟨k, s, g, e, q⟩
      exact ⟨k + 1, .normal, s, g, by rw [run_region, if_pos hc, e]; rfl, q⟩
    · rename_i hc
      rintro ⟨k, s, g, e, q⟩
      exact ⟨k + 1, .normal, s, g, by rw [run_region, if_neg hc, e]; rfl, q⟩
@[go_sem ↓] theorem WP_region_f (id : Nat) (ops : Array Oper) : WP P cfg (.region id ops false) st h Q = OpsW P cfg ops none ops.toList st h (RegK Q) := by
  rw [WP_region]; simp [regW]
@[go_sem ↓] theorem WP_region_t (id : Nat) (ops : Array Oper) : WP P cfg (.region id ops true) st h Q =
    regW (cfg.strict id ops.size) (OpsS P cfg ops (okIds h.nx (wrIds ops st ++ wrX (cfg.wr id ops.size) st)) ops.toList st h (RegK Q)) (OpsW P cfg ops (some h.nx) ops.toList st h (RegK Q)) := by
  rw [WP_region]; simp
@[go_sem ↓] theorem RegK_def : RegK Q st h = Q .normal st h := rfl

/-! ### Regions -/
variable {ops : Array Oper} {lim : Option Nat} {K : St → Hp → Prop} {KV : AV → Hp → Prop}

@[go_sem ↓] theorem OpsW_nil : OpsW P cfg ops lim [] st h K = K st h :=
  propE (fun ⟨k, s, g, e, q⟩ => by simp only [runOps, Option.some.injEq, Prod.mk.injEq] at e; obtain ⟨rfl, rfl⟩ := e; exact q) fun q => ⟨0, _, _, rfl, q⟩

theorem stepK_op {dp : Bool} {call : FuncId → List AV → Hp → Option (AV × Hp)} (o o' : Oper) (he : o.op = o'.op) : stepK P dp call ops lim o st h = stepK P dp call ops lim o' st h := by
  unfold stepK; rw [he]

@[go_sem ↓] theorem OpsW_cons (dst : Option Nat) (o : Op) (t : TypeId) (pos : String) (after : Array Edge) (os : List Oper) :
    OpsW P cfg ops lim (⟨dst, o, t, pos, after, none⟩ :: os) st h K = StepW P cfg ops lim o st h (NextK P cfg ops lim os dst st K) := by
  apply propE
  · rintro ⟨k, s, g, e, q⟩
    simp only [runOps] at e
    obtain ⟨⟨s1, g1⟩, e1, e2⟩ := Option.bind_eq_some_iff.1 e
    simp only [stepO] at e1
    obtain ⟨⟨v, g2⟩, e3, e4⟩ := Option.map_eq_some_iff.1 e1
    simp only [Prod.mk.injEq] at e4
    obtain ⟨rfl, rfl⟩ := e4
    exact ⟨k, v, g2, by rw [stepK_op (o' := ⟨dst, o, t, pos, after, none⟩)]; exact e3; rfl, k, s, g, e2, q⟩
  · rintro ⟨k, v, g, e, k2, s, g2, e2, q⟩
    refine ⟨max k k2, s, g2, ?_, q⟩
    simp only [runOps, stepO]
    have e3 : stepK P cfg.deep (callO P cfg (max k k2)) ops lim ⟨dst, o, t, pos, after, none⟩ st h = some (v, g) := (stepK_op _ _ rfl).trans (stepK_mono (fun f a h r => callO_le (Nat.le_max_left k k2)) e)
    rw [e3]
    exact runOps_le (Nat.le_max_right k k2) e2

/-- A guarded operation. -/
def guardW (d : Option Nat) (v : AV) (w : Bool) (A B : Prop) (_ : Tag A := .mk) (_ : Tag B := .mk) : Prop := match d with | none => False | some _ => match v with | .bool b => if b = w then A else B | .skp => B | _ => False
theorem guardW_congr {d d' : Option Nat} {v v' : AV} {w : Bool} (A B : Prop) (h1 : d = d') (h2 : v = v') : guardW d v w A B = guardW d' v' w A B := by rw [h1, h2]
@[go_sem] theorem guardW_tt (d : Nat) (A B : Prop) : guardW (some d) (.bool true) true A B = A := rfl
@[go_sem] theorem guardW_ft (d : Nat) (A B : Prop) : guardW (some d) (.bool false) true A B = B := rfl
@[go_sem] theorem guardW_tf (d : Nat) (A B : Prop) : guardW (some d) (.bool true) false A B = B := rfl
@[go_sem] theorem guardW_ff (d : Nat) (A B : Prop) : guardW (some d) (.bool false) false A B = A := rfl
@[go_sem] theorem guardW_skp (d : Nat) (w : Bool) (A B : Prop) : guardW (some d) .skp w A B = B := rfl
@[go_sem ↓] theorem OpsW_guard (dst : Option Nat) (o : Op) (t : TypeId) (pos : String) (after : Array Edge) (j : Nat) (w : Bool) (os : List Oper) :
    OpsW P cfg ops lim (⟨dst, o, t, pos, after, some (j, w)⟩ :: os) st h K =
      guardW ((ops[j]?).bind (·.dst)) (st (((ops[j]?).bind (·.dst)).getD 0)) w (StepW P cfg ops lim o st h (NextK P cfg ops lim os dst st K)) (OpsW P cfg ops lim os (updO st dst .skp) h K) := by
  apply propE
  · rintro ⟨k, s, g, e, q⟩
    simp only [runOps] at e
    obtain ⟨⟨s1, g1⟩, e1, e2⟩ := Option.bind_eq_some_iff.1 e
    simp only [stepO] at e1
    split at e1
    · cases e1
    · rename_i d hd
      rw [hd]
      simp only [Option.getD_some, guardW]
      split at e1
      · rename_i b hb
        rw [hb]
        simp only
        split at e1
        · rename_i hw
          rw [if_pos hw]
          obtain ⟨⟨v, g2⟩, e3, e4⟩ := Option.map_eq_some_iff.1 e1
          simp only [Prod.mk.injEq] at e4
          obtain ⟨rfl, rfl⟩ := e4
          exact ⟨k, v, g2, by rw [stepK_op (o' := ⟨dst, o, t, pos, after, some (j, w)⟩)]; exact e3; rfl, k, s, g, e2, q⟩
        · rename_i hw
          rw [if_neg hw]
          simp only [Option.some.injEq, Prod.mk.injEq] at e1
          obtain ⟨rfl, rfl⟩ := e1
          exact ⟨k, s, g, e2, q⟩
      · rename_i hb
        rw [hb]
        simp only [Option.some.injEq, Prod.mk.injEq] at e1
        obtain ⟨rfl, rfl⟩ := e1
        exact ⟨k, s, g, e2, q⟩
      · cases e1
  · intro hg
    unfold guardW at hg
    split at hg
    · exact hg.elim
    · rename_i d hd
      rw [hd] at hg
      simp only [Option.getD_some] at hg
      have nxt : ∀ {k2 s g}, runOps P cfg.deep (callO P cfg k2) ops lim os (updO st dst .skp) h = some (s, g) → K s g → (stepO P cfg.deep (callO P cfg k2) ops lim ⟨dst, o, t, pos, after, some (j, w)⟩ st h = some (updO st dst .skp, h)) → OpsW P cfg ops lim (⟨dst, o, t, pos, after, some (j, w)⟩ :: os) st h K := by
        intro k2 s g e q e1
        exact ⟨k2, s, g, by simp only [runOps, e1]; exact e, q⟩
      split at hg
      · rename_i b hb
        split at hg
        · rename_i hw
          obtain ⟨k, v, g, e, k2, s, g2, e2, q⟩ := hg
          refine ⟨max k k2, s, g2, ?_, q⟩
          have e3 : stepK P cfg.deep (callO P cfg (max k k2)) ops lim ⟨dst, o, t, pos, after, some (j, w)⟩ st h = some (v, g) := (stepK_op _ _ rfl).trans (stepK_mono (fun f a h r => callO_le (Nat.le_max_left k k2)) e)
          simp only [runOps, stepO, hd, hb, if_pos hw, e3]
          exact runOps_le (Nat.le_max_right k k2) e2
        · rename_i hw
          obtain ⟨k, s, g, e, q⟩ := hg
          exact nxt e q (by simp only [stepO, hd, hb, if_neg hw])
      · rename_i hb
        obtain ⟨k, s, g, e, q⟩ := hg
        exact nxt e q (by simp only [stepO, hd, hb])
      · exact hg.elim
@[go_sem ↓] theorem NextK_def (os : List Oper) (dst : Option Nat) (v : AV) : NextK P cfg ops lim os dst st K v h = OpsW P cfg ops lim os (updO st dst v) h K := rfl

theorem getW_congr {o o' : Option AV} (K : AV → Hp → Prop) (h1 : o = o') (h2 : h = h') : getW o h K = getW o' h' K := by rw [h1, h2]
theorem getW2_congr {o o' : Option (AV × Hp)} (K : AV → Hp → Prop) (h1 : o = o') : getW2 o K = getW2 o' K := by rw [h1]
@[go_sem] theorem getW_some (v : AV) : getW (some v) h KV = KV v h := propE (fun ⟨u, e, q⟩ => by cases e; exact q) fun q => ⟨v, rfl, q⟩
@[go_sem] theorem getW2_some (v : AV) : getW2 (some (v, h)) KV = KV v h := propE (fun ⟨u, g, e, q⟩ => by cases e; exact q) fun q => ⟨v, h, rfl, q⟩

theorem StepW_of {o : Op} {r : Option (AV × Hp)} (e : ∀ call, stepK P cfg.deep call ops lim ⟨none, o, 0, default, #[], none⟩ st h = r) : StepW P cfg ops lim o st h KV = getW2 r KV :=
  propE (fun ⟨k, v, g, e1, q⟩ => ⟨v, g, (e _).symm.trans e1, q⟩) fun ⟨v, g, e1, q⟩ => ⟨0, v, g, (e _).trans e1, q⟩
theorem StepW_get {o : Op} {r : Option AV} (e : ∀ call, stepK P cfg.deep call ops lim ⟨none, o, 0, default, #[], none⟩ st h = r.map fun v => (v, h)) : StepW P cfg ops lim o st h KV = getW r h KV := by
  rw [StepW_of e]
  cases r with
  | none => exact propE (fun ⟨_, _, e, _⟩ => by cases e) fun ⟨_, e, _⟩ => by cases e
  | some v => exact propE (fun ⟨_, _, e, q⟩ => by cases e; exact ⟨v, rfl, q⟩) fun ⟨_, e, q⟩ => by cases e; exact ⟨v, h, rfl, q⟩
end
/-! ### Regions whose orders are compared by what their operations touch -/
section
variable {P : Program} {cfg : Cfg} {st st' : St} {h h' : Hp} {ops : Array Oper} {K : St → Hp → Prop} {l : Nat → Bool}
@[go_sem ↓] theorem SK_def (ops : Array Oper) (os : List Oper) : SK P cfg ops l os K st h = OpsS P cfg ops l os st h K := rfl
theorem OpsS_congr (ops : Array Oper) (l l' : Nat → Bool) (os : List Oper) (K : St → Hp → Prop) (h0 : l = l') (h1 : st = st') (h2 : h = h') : OpsS P cfg ops l os st h K = OpsS P cfg ops l' os st' h' K := by rw [h0, h1, h2]
@[go_sem ↓] theorem OpsS_nil : OpsS P cfg ops l [] st h K = K st h :=
  propE (fun ⟨k, s, g, e, q⟩ => by simp only [runOpsS, Option.some.injEq, Prod.mk.injEq] at e; obtain ⟨rfl, rfl⟩ := e; exact q) fun q => ⟨0, _, _, rfl, q⟩
/-- What is looked at comes first. -/
def chkW (b : Bool) (A : Prop) (_ : Tag A := .mk) : Prop := b = true ∧ A
theorem chkW_congr {b b' : Bool} (A : Prop) (h : b = b') : chkW b A = chkW b' A := by rw [h]
@[go_sem] theorem chkW_t (A : Prop) : chkW true A = A := by simp [chkW]
attribute [go_sem] isCallK
/-- What a call of a function value leaves alone. -/
def keepW (b : Bool) (l : Nat → Bool) (h h' : Hp) (A : Prop) (_ : Tag A := .mk) : Prop := (b = true → KeepsL l h h') ∧ A
theorem keepW_congr {b b' : Bool} (l : Nat → Bool) (h h' : Hp) (A : Prop) (e : b = b') : keepW b l h h' A = keepW b' l h h' A := by rw [e]
@[go_sem] theorem keepW_f (l : Nat → Bool) (h h' : Hp) (A : Prop) : keepW false l h h' A = A := by simp [keepW]
theorem keepW_t {l : Nat → Bool} {h h' : Hp} (k : KeepsL l h h') (A : Prop) : keepW true l h h' A = A := by simp [keepW, k]
def SKC (P : Program) (cfg : Cfg) (ops : Array Oper) (l : Nat → Bool) (o : Oper) (os : List Oper) (K : St → Hp → Prop) (h : Hp) : St → Hp → Prop := fun st' h' => keepW (isCallK o.op) l h h' (OpsS P cfg ops l os st' h' K)
@[go_sem ↓] theorem SKC_def (o : Oper) (os : List Oper) (h0 : Hp) : SKC P cfg ops l o os K h0 st h = keepW (isCallK o.op) l h0 h (OpsS P cfg ops l os st h K) := rfl
@[go_sem ↓] theorem OpsS_cons (o : Oper) (os : List Oper) : OpsS P cfg ops l (o :: os) st h K = chkW (chkG cfg l ops o st) (OpsW P cfg ops none [o] st h (SKC P cfg ops l o os K h)) := by
  apply propE
  · rintro ⟨k, s, g, e, q⟩
    simp only [runOpsS] at e
    obtain ⟨⟨s1, g1⟩, e1, e2⟩ := Option.bind_eq_some_iff.1 e
    obtain ⟨hk, e1, hkeep⟩ := stepS_iff.1 e1
    exact ⟨hk, k, s1, g1, by simp [runOps, e1], hkeep, k, s, g, e2, q⟩
  · rintro ⟨hk, k, s1, g1, e1, hkeep, k2, s, g, e2, q⟩
    refine ⟨max k k2, s, g, ?_, q⟩
    simp only [runOps] at e1
    obtain ⟨⟨s2, g2⟩, e3, e4⟩ := Option.bind_eq_some_iff.1 e1
    simp only [Option.some.injEq, Prod.mk.injEq] at e4
    obtain ⟨rfl, rfl⟩ := e4
    simp only [runOpsS]
    rw [stepS_iff.2 ⟨hk, stepO_mono (fun f a h r => callO_le (Nat.le_max_left k k2)) e3, hkeep⟩]
    exact runOpsS_le (Nat.le_max_right k k2) e2
def chkB (d : Option Nat) (v : AV) (w b : Bool) : Bool := match d with | none => true | some _ => match v with | .bool c => if c = w then b else true | _ => true
@[go_sem] theorem chkB_tt (d : Nat) (b : Bool) : chkB (some d) (.bool true) true b = b := rfl
@[go_sem] theorem chkB_ft (d : Nat) (b : Bool) : chkB (some d) (.bool false) true b = true := rfl
@[go_sem] theorem chkB_tf (d : Nat) (b : Bool) : chkB (some d) (.bool true) false b = true := rfl
@[go_sem] theorem chkB_ff (d : Nat) (b : Bool) : chkB (some d) (.bool false) false b = b := rfl
@[go_sem] theorem chkB_skp (d : Nat) (w b : Bool) : chkB (some d) .skp w b = true := rfl
@[go_sem ↓] theorem chkG_none (dst : Option Nat) (o : Op) (t : TypeId) (pos : String) (after : Array Edge) : chkG cfg l ops ⟨dst, o, t, pos, after, none⟩ st = chk cfg l o (ev st) := rfl
def chkR (l : Nat → Bool) : AV → Bool | .ptr id _ => l id | .pp _ => true | _ => false
def chkL (l : Nat → Bool) : AV → Bool | .ptr id _ => l id | _ => true
def chkM (l : Nat → Bool) : AV → Bool | .mp id => l id | .mv .. => true | _ => false
def chkN (l : Nat → Bool) : AV → Bool | .mp id => l id | _ => true
def chkT (l : Nat → Bool) : AV → Bool | .ptr id _ => !l id | _ => false
def chkU (l : Nat → Bool) : AV → Bool | .mp id => !l id | _ => false
def chkA (l : Nat → Bool) : AV → Bool | .sl id _ _ _ => !l id | .nil => true | _ => false
def chkC (l : Nat → Bool) : AV → Bool | .sl id _ _ _ => !l id | _ => false
@[go_sem] theorem chkR_ptr (id off : Nat) : chkR l (.ptr id off) = l id := rfl
@[go_sem] theorem chkR_pp (cs : List AV) : chkR l (.pp cs) = true := rfl
@[go_sem] theorem chkL_ptr (id off : Nat) : chkL l (.ptr id off) = l id := rfl
@[go_sem] theorem chkL_sl (id off n sz : Nat) : chkL l (.sl id off n sz) = true := rfl
@[go_sem] theorem chkL_lst (xs : List (List AV)) : chkL l (.lst xs) = true := rfl
@[go_sem] theorem chkM_mp (id : Nat) : chkM l (.mp id) = l id := rfl
@[go_sem] theorem chkM_mv (ks : List Int) (vs : List AV) : chkM l (.mv ks vs) = true := rfl
@[go_sem] theorem chkN_mp (id : Nat) : chkN l (.mp id) = l id := rfl
@[go_sem] theorem chkN_sl (id off n sz : Nat) : chkN l (.sl id off n sz) = true := rfl
@[go_sem] theorem chkN_lst (xs : List (List AV)) : chkN l (.lst xs) = true := rfl
@[go_sem] theorem chkN_nil : chkN l .nil = true := rfl
@[go_sem] theorem chkT_ptr (id off : Nat) : chkT l (.ptr id off) = !l id := rfl
@[go_sem] theorem chkU_mp (id : Nat) : chkU l (.mp id) = !l id := rfl
@[go_sem] theorem chkA_sl (id off n sz : Nat) : chkA l (.sl id off n sz) = !l id := rfl
@[go_sem] theorem chkA_nil : chkA l .nil = true := rfl
@[go_sem] theorem chkC_sl (id off n sz : Nat) : chkC l (.sl id off n sz) = !l id := rfl
@[go_sem] theorem chk_load (t : TypeId) (p : Operand) : chk cfg l (.load t p) (ev st) = chkR l (ev st p) := rfl
@[go_sem] theorem chk_slice (t : TypeId) (x : Operand) (lo hi mx : Option Operand) : chk cfg l (.slice t x lo hi mx) (ev st) = chkL l (ev st x) := rfl
@[go_sem] theorem chk_lookup (t : TypeId) (m k : Operand) (ok : Bool) : chk cfg l (.lookup t m k ok) (ev st) = chkM l (ev st m) := rfl
@[go_sem] theorem chk_len (x : Operand) (ts : Array TypeId) : chk cfg l (.call ⟨.builtin .len, #[x], ts⟩) (ev st) = chkN l (ev st x) := rfl
@[go_sem] theorem chk_min (xs : Array Operand) (ts : Array TypeId) : chk cfg l (.call ⟨.builtin .min, xs, ts⟩) (ev st) = true := rfl
@[go_sem] theorem chk_max (xs : Array Operand) (ts : Array TypeId) : chk cfg l (.call ⟨.builtin .max, xs, ts⟩) (ev st) = true := rfl
@[go_sem] theorem chk_store (t : TypeId) (p x : Operand) : chk cfg l (.store t p x) (ev st) = chkT l (ev st p) := rfl
@[go_sem] theorem chk_mapUpdate (t : TypeId) (m k x : Operand) : chk cfg l (.mapUpdate t m k x) (ev st) = chkU l (ev st m) := rfl
@[go_sem] theorem chk_insert (t : TypeId) (m k x : Operand) : chk cfg l (.insert t m k x) (ev st) = chkU l (ev st m) := rfl
@[go_sem] theorem chk_append (x y : Operand) (ts : Array TypeId) : chk cfg l (.call ⟨.builtin .append, #[x, y], ts⟩) (ev st) = chkA l (ev st x) := rfl
@[go_sem] theorem chk_copy (x y : Operand) (ts : Array TypeId) : chk cfg l (.call ⟨.builtin .copy, #[x, y], ts⟩) (ev st) = chkC l (ev st x) := rfl
@[go_sem] theorem chk_fn (f : Nat) (xs : Array Operand) (ts : Array TypeId) : chk cfg l (.call ⟨.value (.tmp f), xs, ts⟩) (ev st) = true := rfl
@[go_sem] theorem chk_buildSlice0 (t : TypeId) (parts : Array (Nat × Operand)) : chk cfg l (.buildSlice t 0 parts) (ev st) = true := rfl
@[go_sem] theorem chk_move (x : Operand) : chk cfg l (.move x) (ev st) = true := rfl
@[go_sem] theorem chk_assign (x : Operand) : chk cfg l (.assign x) (ev st) = true := rfl
@[go_sem] theorem chk_pick (a b c : Operand) : chk cfg l (.pick a b c) (ev st) = true := rfl
@[go_sem] theorem chk_binOp (b : BinOp) (t : TypeId) (x y : Operand) (z) : chk cfg l (.binOp b t x y z) (ev st) = true := rfl
@[go_sem] theorem chk_unOp (b : UnOp) (t : TypeId) (x : Operand) : chk cfg l (.unOp b t x) (ev st) = true := rfl
@[go_sem] theorem chk_fieldAddr (t : TypeId) (x : Operand) (f : Nat) : chk cfg l (.fieldAddr t x f) (ev st) = true := rfl
@[go_sem] theorem chk_field (t : TypeId) (x : Operand) (f : Nat) : chk cfg l (.field t x f) (ev st) = true := rfl
@[go_sem] theorem chk_indexAddr (t : TypeId) (x i : Operand) : chk cfg l (.indexAddr t x i) (ev st) = true := rfl
@[go_sem] theorem chk_index (t : TypeId) (x i : Operand) : chk cfg l (.index t x i) (ev st) = true := rfl
@[go_sem] theorem chk_build (t : TypeId) (ps : Array (Nat × Operand)) : chk cfg l (.build t ps) (ev st) = true := rfl
@[go_sem] theorem chk_extract (x : Operand) (i : Nat) : chk cfg l (.extract x i) (ev st) = true := rfl
@[go_sem] theorem chk_alloc (t : TypeId) : chk cfg l (.alloc t) (ev st) = true := rfl
@[go_sem] theorem chk_box (t : TypeId) (x : Operand) : chk cfg l (.box t x) (ev st) = true := rfl
@[go_sem] theorem chk_makeSlice (t : TypeId) (x y : Operand) : chk cfg l (.makeSlice t x y) (ev st) = true := rfl
@[go_sem] theorem chk_makeMap (t : TypeId) (x : Option Operand) : chk cfg l (.makeMap t x) (ev st) = true := rfl
@[go_sem] theorem chk_makeFunc (f : Fn) (a b : Array Operand) : chk cfg l (.makeFunc f a b) (ev st) = true := rfl
@[go_sem] theorem chk_convert (a b : TypeId) (x : Operand) : chk cfg l (.convert a b x) (ev st) = true := rfl
@[go_sem] theorem okIds_def (nx id : Nat) (ids : List Nat) : okIds nx ids id = (decide (id < nx) && !ids.contains id) := rfl
@[go_sem] theorem wrX_nil (st : St) : wrX [] st = [] := rfl
def wrOf (v : AV) (ps : List Nat) (st : St) : List Nat := match v with | .ptr id _ => id :: wrX ps st | .sl id _ _ _ => id :: wrX ps st | _ => wrX ps st
@[go_sem] theorem wrX_cons (p : Nat) (ps : List Nat) (st : St) : wrX (p :: ps) st = wrOf (st p) ps st := by
  simp only [wrX, List.filterMap_cons, wrOf]
  cases st p <;> rfl
@[go_sem] theorem wrOf_ptr (id off : Nat) (ps : List Nat) (st : St) : wrOf (.ptr id off) ps st = id :: wrX ps st := rfl
@[go_sem] theorem wrOf_sl (id off n sz : Nat) (ps : List Nat) (st : St) : wrOf (.sl id off n sz) ps st = id :: wrX ps st := rfl
@[go_sem ↓] theorem wrIds_def (ops : Array Oper) (st : St) : wrIds ops st = ops.toList.filterMap fun o => match o.op with
    | .store _ (.tmp p) _ => match st p with | .ptr id _ => some id | _ => none
    | _ => none := rfl

end
attribute [congr] WP_congr OpsW_congr OpsS_congr regW_congr chkW_congr keepW_congr condW_congr guardW_congr getW_congr getW2_congr
end Go.Am

