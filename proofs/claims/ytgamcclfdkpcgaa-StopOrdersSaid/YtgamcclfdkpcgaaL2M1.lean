/-
  rules: what the closure hands to the body of a range over it.
  best: the first rule whose values cannot be improved.
  awake: run as it stands, with the answer of best put in.
  Rules for fractions.
  within, gcd, reduced; the reference's.
  Candidates.
  Chosen, Secretary.
  The laws' own configuration: what awake answers is known, and what the functions below the laws answer.
  'StopSecretary' answers true.
  orders; 'StopOrders' answers true.
-/
import Derived.Test.YtgamcclfdkpcgaaL2Facts
import Derived.Test.YtgamcclfdkpcgaaAmRange
import Derived.Test.YtgamcclfdkpcgaaAmEnd
set_option linter.unusedVariables false
set_option linter.unusedSimpArgs false
set_option maxRecDepth 10000
namespace Go.Proofs.Ytgamcclfdkpcgaa
open Go Go.Am Go.RowKit

variable {h h' : Hp} {K : AV → Hp → Prop}

theorem hext0 : ExtOk Try.prog cfg := fun _ _ _ h => by cases h
/-- The rule of a number: its bits. -/
def ruleN (n j x : Nat) : List Bool := fillR 6 (fun i => x.testBit i) false j
def uR (n x : Nat) : AV := .agg ((ruleN n n x).flatMap (e1 .bool))
def encR (n x : Nat) : Value := .agg ((ruleN n n x).map Value.bool).toArray
theorem ruleN_len (n j x : Nat) : (ruleN n j x).length = 6 := by simp [ruleN, fillR]
theorem encR_ok (n x : Nat) (w : World) (c : Ctx) : VR w c (uR n x) (encR n x) := by
  refine .agg _ _ (by rw [flat_len]; simp) (fun y hy => ?_) fun j y hj => ?_
  · obtain ⟨b, _, hb⟩ := List.mem_flatMap.1 hy
    simp only [e1, List.mem_singleton] at hb
    rw [hb]; rfl
  · have hlt : j < (ruleN n n x).length := by have := (List.getElem?_eq_some_iff.1 hj).1; rwa [flat_len] at this
    rw [flat_get _ _ _ hlt] at hj
    cases hj
    have : ((ruleN n n x).map Value.bool).toArray.getD j Go.undef = .bool (nth (ruleN n n x) j) := by
      rw [Array.getD_eq_getD_getElem?, List.getElem?_toArray, List.getElem?_map, nth_get hlt]; rfl
    rw [this]; exact .bool _

theorem flat_bools (bs : List Bool) (k : Nat) (hk : k < bs.length) : (bs.flatMap (e1 AV.bool))[k]? = some (.bool (nth bs k)) := flat_get _ _ _ hk

theorem roundIn_any {ro : Option Nat} {m m' : Nat} {P : Program} {l : Nat} {f : FuncId} {tmps : Array Value} {assign body : Code} {w : World} {R : Ending → World → Prop} (h : RoundIn (rF ro) m P l f tmps assign body w R) : RoundIn (rF ro) m' P l f tmps assign body w R :=
  ⟨h.1, fun c cs _ => h.2 c cs (room_wide _)⟩
theorem uR_inv {n x : Nat} {w : World} {c : Ctx} {v : Value} (h : VR w c (uR n x) v) : v = encR n x := by
  unfold uR at h
  generalize hq : (ruleN n n x).flatMap (e1 AV.bool) = q at h
  cases h with
  | agg _ vs hl hcell hv =>
    subst hq
    rw [flat_len] at hl
    unfold encR
    congr 1
    refine Array.ext (by simp [hl]) fun j h1 h2 => ?_
    have hj : j < (ruleN n n x).length := by omega
    have := hv j _ (flat_bools _ _ hj)
    rw [Array.getD_eq_getD_getElem?, Array.getElem?_eq_getElem h1, Option.getD_some] at this
    rw [this.bool_inv]
    simp [nth_getElem hj]

theorem not_run {P : Program} {ρ : Operand → Value} {w : World} {x : Operand} {b : Bool} {d : Option Nat} {t u : TypeId} {p : String} {es : Array Edge} (h : ρ x = .bool b) : (execOp ρ ⟨d, .unOp .not t x, u, p, es, none⟩).run P w = .ok (.value (.bool (!b))) w := by
  unfold execOp
  simp only [h]
  rfl

theorem rules_seq (n : Nat) (hn : n ≤ 6) (m : Nat) (ad : Addr) (w : World) (hb : ad.block < w.heap.size) (hcell : w.cell? ad = some (.int .i64 n)) :
    SeqC Try.prog m 81 #[.pointer (some ad)] (fun x : Nat => #[encR n x]) (fun xs => xs = List.range (2 ^ n)) (fun pre => pre <+: List.range (2 ^ n)) (2 ^ n) w := by
  intro l J Jx W hW hJ hY h0
  have hN6 : 2 ^ n ≤ 64 := by have := Nat.pow_le_pow_right (n := 2) (by decide) hn; omega
  have esh := fun t => shl_one (P := Try.prog) t n (by omega)
  obtain ⟨N, hN⟩ : ∃ N, N = 2 ^ n := ⟨_, rfl⟩
  rw [← hN] at esh hY hN6 ⊢
  have hcW : W.cell? ad = some (.int .i64 n) := (hW.cell (p := ad) hb).trans hcell
  have hbW : ad.block < W.heap.size := Nat.lt_of_lt_of_le hb hW.size
  obtain ⟨c0, hc0⟩ : ∃ c : Ctx, c = { base := W.heap.size, nx := 0, loc := fun _ => .dead, fz := fun k => k = ad.block } := ⟨_, rfl⟩
  have H0 : HR W c0 Hp.empty := by rw [hc0]; exact ctx_nil fun k hk => by rw [hk]; exact hbW
  have S0 : SR 28 W c0 (initSt [.undef, .pp [I n]]) { tmps := #[.func (.yield l) #[] #[], .pointer (some ad)] ++ Array.replicate (28 - 2) Go.undef, defers := [] } := by
    refine args_start (n := 28) ⟨rfl, fun j v hj => ?_⟩ (Nat.le_of_ble_eq_true rfl)
    match j, hj with
    | 0, hj => cases hj; exact .undef _
    | 1, hj =>
      cases hj
      refine .pp _ _ (fun _ => .int .i64 n) (fun _ => by rw [hc0]) (by simp [AV.isCell]) (fun j hj => ?_) (fun j y hy => ?_)
      · have : j = 0 := by simpa using hj
        subst this
        have e0 : ad.add 0 = ad := by unfold Addr.add; simp
        rw [e0]; exact hcW
      · have : j = 0 := by
          have := (List.getElem?_eq_some_iff.1 hy).1
          simpa using this
        subst this
        cases hy; exact .int _ _
  have hbase0 : c0.base = W.heap.size := by rw [hc0]
  refine callsIn_of_wp (fn := Try.f81) (c := Try.f81.body.getD .skip) Try.func81 rfl trivial ?_
  have hy0 : ({ tmps := #[.func (.yield l) #[] #[], .pointer (some ad)] ++ Array.replicate (28 - 2) Go.undef, defers := [] } : Act).tmps[0]? = some (.func (.yield l) #[] #[]) := by simp
  obtain ⟨a0, ha0⟩ : ∃ a0 : Act, { tmps := #[.func (.yield l) #[] #[], .pointer (some ad)] ++ Array.replicate (28 - 2) Go.undef, defers := [] } = a0 := ⟨_, rfl⟩
  rw [ha0] at S0 hy0
  have hgo : (Try.f81.body.getD .skip).wpIn (rF none) m Try.prog (bodyPost Try.prog Try.f81 fun e W' => (∃ v, e = .returned v) ∧ ((∃ xs, xs = List.range N ∧ J xs W') ∨ (∃ pre, pre <+: List.range N ∧ Jx pre W'))) a0 W := ?_
  · rw [← ha0] at hgo; exact hgo
  simp only [Try.f81, Option.getD_some]
  -- before the loop
  refine wpIn_seq (WP.in_ hext0 0 rfl rfl (R := fun x st h => x = .normal ∧ st 1 = .pp [I n] ∧ st 7 = I N ∧ st 8 = I (0 : Nat)) ?_ H0 S0 ?_)
  · simp only [initSt2]
    simp (disch := first | (simp only [go_sem, Bool.and_self, eq_self]; done) | omega | (simp only [List.length_cons, List.length_nil]; omega)) only [go_sem, ↓reduceIte, Nat.reduceEqDiff, Nat.reduceAdd, Nat.reduceMul, Nat.reduceSub, Int.reduceToNat, Nat.reduceBEq, List.size_toArray, List.length_cons, List.length_nil, Bool.false_and, Bool.true_and, Bool.or_false, Bool.false_or, Bool.and_false, Bool.and_true, esh]
    rfl
  rintro x st h ⟨rfl, s1, s7, s8⟩ w1 c1 a1 E1 H1 S1 F1
  refine wpIn_block (wpIn_loop (fun a w' => ∃ ctx h st k, HR w' ctx h ∧ SR 28 w' ctx st a ∧ ctx.base = W.heap.size ∧ st 1 = .pp [I n] ∧ st 7 = I N ∧ st 8 = I (k : Nat) ∧ k ≤ N ∧ J (List.range k) w' ∧ a.tmps[0]? = some (.func (.yield l) #[] #[]))
    (fun a _ => N - (intOf (a.tmps.getD 8 Go.undef)).toNat) ?_ ?_)
  · refine ⟨c1, h, st, 0, H1, S1, E1.base.trans hbase0, s1, s7, s8, Nat.zero_le _, ?_, Eq.trans F1 hy0⟩
    have := E1.below
    rw [hbase0] at this
    exact hJ _ _ _ h0 this
  rintro a w2 ⟨ctx, h, st, k, H, S, hbase, s1, s7, s8, hk, hj, hy⟩
  have hval8 : a.tmps.getD 8 Go.undef = .int .i64 k := by
    have := S.val 8
    rw [s8] at this
    generalize a.tmps.getD 8 Go.undef = v at this
    cases this; rfl
  -- the test
  refine wpIn_seq (WP.in_ hext0 0 rfl rfl (R := fun x st' h' => x = .normal ∧ st' 1 = .pp [I n] ∧ st' 7 = I N ∧ st' 8 = I (k : Nat) ∧ st' 9 = .bool (decide (k < N))) ?_ H S ?_)
  · by_cases hlt : k < N
    · simp (disch := first | (simp only [go_sem, Bool.and_self, eq_self]; done) | omega | (simp only [List.length_cons, List.length_nil]; omega)) only [go_sem, ↓reduceIte, Nat.reduceEqDiff, Nat.reduceAdd, Nat.reduceMul, Nat.reduceSub, Int.reduceToNat, Nat.reduceBEq, List.size_toArray, List.length_cons, List.length_nil, Bool.false_and, Bool.true_and, Bool.or_false, Bool.false_or, Bool.and_false, Bool.and_true, s1, s7, s8, hlt, decide_true]
    · simp (disch := first | (simp only [go_sem, Bool.and_self, eq_self]; done) | omega | (simp only [List.length_cons, List.length_nil]; omega)) only [go_sem, ↓reduceIte, Nat.reduceEqDiff, Nat.reduceAdd, Nat.reduceMul, Nat.reduceSub, Int.reduceToNat, Nat.reduceBEq, List.size_toArray, List.length_cons, List.length_nil, Bool.false_and, Bool.true_and, Bool.or_false, Bool.false_or, Bool.and_false, Bool.and_true, s1, s7, s8, hlt, decide_false]
  rintro x st h3 ⟨rfl, s1, s7, s8, s9⟩ w3 c3 a3 E3 H3 S3 F3
  refine wpIn_seq ?_
  by_cases hlt : k < N
  case neg =>
    have hkN : k = N := by omega
    rw [show decide (k < N) = false by simp [hlt]] at s9
    refine WP.in_ hext0 0 rfl rfl (R := fun x st h => x = .exit 0) ?_ H3 S3 ?_
    · simp (disch := first | (simp only [go_sem, Bool.and_self, eq_self]; done) | omega | (simp only [List.length_cons, List.length_nil]; omega)) only [go_sem, ↓reduceIte, Nat.reduceEqDiff, Nat.reduceAdd, Nat.reduceMul, Nat.reduceSub, Int.reduceToNat, Nat.reduceBEq, List.size_toArray, List.length_cons, List.length_nil, Bool.false_and, Bool.true_and, Bool.or_false, Bool.false_or, Bool.and_false, Bool.and_true, s9]
    rintro x st' h' rfl w4 c4 a4 E4 H4 S4 F4
    refine ⟨S4.defers, _, results_none rfl _ _ _, ⟨_, rfl⟩, .inl ⟨_, rfl, ?_⟩⟩
    have hb1 := (E3.trans E4).below
    rw [hbase] at hb1
    rw [← hkN]
    exact hJ _ _ _ hj hb1
  rw [show decide (k < N) = true by simp [hlt]] at s9
  refine WP.in_ hext0 0 rfl rfl (R := fun x st' h' => x = .normal ∧ st' 1 = .pp [I n] ∧ st' 7 = I N ∧ st' 8 = I (k : Nat)) ?_ H3 S3 ?_
  · simp (disch := first | (simp only [go_sem, Bool.and_self, eq_self]; done) | omega | (simp only [List.length_cons, List.length_nil]; omega)) only [go_sem, ↓reduceIte, Nat.reduceEqDiff, Nat.reduceAdd, Nat.reduceMul, Nat.reduceSub, Int.reduceToNat, Nat.reduceBEq, List.size_toArray, List.length_cons, List.length_nil, Bool.false_and, Bool.true_and, Bool.or_false, Bool.false_or, Bool.and_false, Bool.and_true, s1, s7, s8, s9]
  rintro x st h4 ⟨rfl, s1, s7, s8⟩ w4 c4 a4 E4 H4 S4 F4
  -- the body
  have hbase4 : c4.base = W.heap.size := ((E3.trans E4).base).trans hbase
  have hb4 := (E3.trans E4).below
  rw [hbase] at hb4
  have hj4 : J (List.range k) w4 := hJ _ _ _ hj hb4
  have hy4 : a4.tmps[0]? = some (.func (.yield l) #[] #[]) := Eq.trans F4 (Eq.trans F3 hy)
  clear H S H3 S3 F3 F4 E3 E4 hb4 hj hy
  refine wpIn_seq (wpIn_block ?_)
  refine wpIn_seq (WP.in_ hext0 0 rfl rfl (R := fun x st' h' => x = .normal ∧ st' 1 = .pp [I n] ∧ st' 3 = I k ∧ st' 7 = I N ∧ st' 8 = I k) ?_ H4 S4 ?_)
  · simp (disch := first | (simp only [go_sem, Bool.and_self, eq_self]; done) | omega | (simp only [List.length_cons, List.length_nil]; omega)) only [go_sem, ↓reduceIte, Nat.reduceEqDiff, Nat.reduceAdd, Nat.reduceMul, Nat.reduceSub, Int.reduceToNat, Nat.reduceBEq, List.size_toArray, List.length_cons, List.length_nil, Bool.false_and, Bool.true_and, Bool.or_false, Bool.false_or, Bool.and_false, Bool.and_true, s1, s7, s8]
  rintro x st h5 ⟨rfl, s1, s3, s7, s8⟩ w5 c5 a5 E5 H5 S5 F5
  refine wpIn_seq (WP.in_ hext0 0 rfl rfl (R := fun x st' h' => x = .normal ∧ st' 1 = .pp [I n] ∧ st' 3 = I k ∧ st' 4 = .ptr h5.nx 0 ∧ st' 7 = I N ∧ st' 8 = I k ∧ h5.nx < h'.nx ∧ h'.bl h5.nx = some (.cells false false ((ruleN n 0 k).flatMap (e1 .bool)))) ?_ H5 S5 ?_)
  · simp (disch := first | (simp only [go_sem, Bool.and_self, eq_self]; done) | omega | (simp only [List.length_cons, List.length_nil]; omega)) only [go_sem, ↓reduceIte, Nat.reduceEqDiff, Nat.reduceAdd, Nat.reduceMul, Nat.reduceSub, Int.reduceToNat, Nat.reduceBEq, List.size_toArray, List.length_cons, List.length_nil, Bool.false_and, Bool.true_and, Bool.or_false, Bool.false_or, Bool.and_false, Bool.and_true, s1, s3, s7, s8]
    exact ⟨Nat.lt_succ_self _, rfl⟩
  rintro x st h6 ⟨rfl, s1, s3, s4, s7, s8, hid, hbl⟩ w6 c6 a6 E6 H6 S6 F6
  generalize h5.nx = id at *
  refine wpIn_seq (WP.in_ hext0 0 rfl rfl (R := fun x st' h' => x = .normal ∧ st' 4 = .ptr id 0 ∧ st' 1 = .pp [I n] ∧ st' 7 = I N ∧ st' 8 = I k ∧ h'.bl id = some (.cells false false ((ruleN n n k).flatMap (e1 .bool)))) ?_ H6 S6 ?_)
  · simp (disch := first | (simp only [go_sem, Bool.and_self, eq_self]; done) | omega | (simp only [List.length_cons, List.length_nil]; omega)) only [go_sem, ↓reduceIte, Nat.reduceEqDiff, Nat.reduceAdd, Nat.reduceMul, Nat.reduceSub, Int.reduceToNat, Nat.reduceBEq, List.size_toArray, List.length_cons, List.length_nil, Bool.false_and, Bool.true_and, Bool.or_false, Bool.false_or, Bool.and_false, Bool.and_true, s1, s3, s4, s7, s8]
    refine WP_for 12 n (fun i st h => st 1 = .pp [I n] ∧ st 3 = I k ∧ st 4 = .ptr id 0 ∧ st 7 = I N ∧ st 8 = I k ∧ st 11 = I n ∧ id < h.nx ∧ h.bl id = some (.cells false false ((ruleN n i k).flatMap (e1 .bool)))) (by simp (disch := first | (simp only [go_sem, Bool.and_self, eq_self]; done) | omega | (simp only [List.length_cons, List.length_nil]; omega)) only [go_sem, ↓reduceIte, Nat.reduceEqDiff, Nat.reduceAdd, Nat.reduceMul, Nat.reduceSub, Int.reduceToNat, Nat.reduceBEq, List.size_toArray, List.length_cons, List.length_nil, Bool.false_and, Bool.true_and, Bool.or_false, Bool.false_or, Bool.and_false, Bool.and_true]) ⟨by simp (disch := first | (simp only [go_sem, Bool.and_self, eq_self]; done) | omega | (simp only [List.length_cons, List.length_nil]; omega)) only [go_sem, ↓reduceIte, Nat.reduceEqDiff, Nat.reduceAdd, Nat.reduceMul, Nat.reduceSub, Int.reduceToNat, Nat.reduceBEq, List.size_toArray, List.length_cons, List.length_nil, Bool.false_and, Bool.true_and, Bool.or_false, Bool.false_or, Bool.and_false, Bool.and_true, s1, s3, s4, s7, s8], by simp (disch := first | (simp only [go_sem, Bool.and_self, eq_self]; done) | omega | (simp only [List.length_cons, List.length_nil]; omega)) only [go_sem, ↓reduceIte, Nat.reduceEqDiff, Nat.reduceAdd, Nat.reduceMul, Nat.reduceSub, Int.reduceToNat, Nat.reduceBEq, List.size_toArray, List.length_cons, List.length_nil, Bool.false_and, Bool.true_and, Bool.or_false, Bool.false_or, Bool.and_false, Bool.and_true, s1, s3, s4, s7, s8], by simp (disch := first | (simp only [go_sem, Bool.and_self, eq_self]; done) | omega | (simp only [List.length_cons, List.length_nil]; omega)) only [go_sem, ↓reduceIte, Nat.reduceEqDiff, Nat.reduceAdd, Nat.reduceMul, Nat.reduceSub, Int.reduceToNat, Nat.reduceBEq, List.size_toArray, List.length_cons, List.length_nil, Bool.false_and, Bool.true_and, Bool.or_false, Bool.false_or, Bool.and_false, Bool.and_true, s1, s3, s4, s7, s8], by simp (disch := first | (simp only [go_sem, Bool.and_self, eq_self]; done) | omega | (simp only [List.length_cons, List.length_nil]; omega)) only [go_sem, ↓reduceIte, Nat.reduceEqDiff, Nat.reduceAdd, Nat.reduceMul, Nat.reduceSub, Int.reduceToNat, Nat.reduceBEq, List.size_toArray, List.length_cons, List.length_nil, Bool.false_and, Bool.true_and, Bool.or_false, Bool.false_or, Bool.and_false, Bool.and_true, s1, s3, s4, s7, s8], by simp (disch := first | (simp only [go_sem, Bool.and_self, eq_self]; done) | omega | (simp only [List.length_cons, List.length_nil]; omega)) only [go_sem, ↓reduceIte, Nat.reduceEqDiff, Nat.reduceAdd, Nat.reduceMul, Nat.reduceSub, Int.reduceToNat, Nat.reduceBEq, List.size_toArray, List.length_cons, List.length_nil, Bool.false_and, Bool.true_and, Bool.or_false, Bool.false_or, Bool.and_false, Bool.and_true, s1, s3, s4, s7, s8], by simp (disch := first | (simp only [go_sem, Bool.and_self, eq_self]; done) | omega | (simp only [List.length_cons, List.length_nil]; omega)) only [go_sem, ↓reduceIte, Nat.reduceEqDiff, Nat.reduceAdd, Nat.reduceMul, Nat.reduceSub, Int.reduceToNat, Nat.reduceBEq, List.size_toArray, List.length_cons, List.length_nil, Bool.false_and, Bool.true_and, Bool.or_false, Bool.false_or, Bool.and_false, Bool.and_true, s1, s3, s4, s7, s8], hid, hbl⟩ ?_
    rintro i st h hi s12 ⟨s1, s3, s4, s7, s8, s11, hnx, b0⟩
    by_cases hlt : i < n
    case neg =>
      have hin : i = n := by omega
      subst hin
      simp (disch := first | (simp only [go_sem, Bool.and_self, eq_self]; done) | omega | (simp only [List.length_cons, List.length_nil]; omega)) only [go_sem, ↓reduceIte, Nat.reduceEqDiff, Nat.reduceAdd, Nat.reduceMul, Nat.reduceSub, Int.reduceToNat, Nat.reduceBEq, List.size_toArray, List.length_cons, List.length_nil, Bool.false_and, Bool.true_and, Bool.or_false, Bool.false_or, Bool.and_false, Bool.and_true, s1, s3, s4, s7, s8, s11, s12, hlt]
      exact b0
    have hsh := shr_nat (P := Try.prog) 3 k i (by omega)
    have hl6 : i < (ruleN n i k).length := by rw [ruleN_len]; omega
    have hset : (ruleN n i k).set i (k.testBit i) = ruleN n (i + 1) k := fillR_set (by omega)
    have h6 : (i : Int) < 6 := by omega
    have hsl : k >>> i < 9223372036854775808 := by rw [Nat.shiftRight_eq_div_pow]; exact Nat.lt_of_le_of_lt (Nat.div_le_self _ _) (by omega)
    have hand : binA Try.prog .and 3 (I ((k >>> i : Nat) : Int)) (I 1) = some (I ((if k.testBit i then 1 else 0 : Nat) : Int)) := by
      rw [show ((1 : Int)) = ((1 : Nat) : Int) from rfl, binA_and (P := Try.prog) 3 (k >>> i) 1 hsl (by omega), bit_test]
    cases htb : k.testBit i with
    | true =>
      rw [htb] at hand hset
      have e1' : ((if true = true then 1 else 0 : Nat) : Int) = 1 := rfl
      rw [e1'] at hand
      simp (disch := first | (simp only [go_sem, Bool.and_self, eq_self]; done) | omega | (simp only [List.length_cons, List.length_nil]; omega)) only [go_sem, ↓reduceIte, Nat.reduceEqDiff, Nat.reduceAdd, Nat.reduceMul, Nat.reduceSub, Int.reduceToNat, Nat.reduceBEq, List.size_toArray, List.length_cons, List.length_nil, Bool.false_and, Bool.true_and, Bool.or_false, Bool.false_or, Bool.and_false, Bool.and_true, s1, s3, s4, s7, s8, s11, s12, hlt, b0, hsh, hl6, hand, h6, hset, eq_self, decide_true]
      rw [ForK_normal]
      exact ⟨hlt, by simp (disch := first | (simp only [go_sem, Bool.and_self, eq_self]; done) | omega | (simp only [List.length_cons, List.length_nil]; omega)) only [go_sem, ↓reduceIte, Nat.reduceEqDiff, Nat.reduceAdd, Nat.reduceMul, Nat.reduceSub, Int.reduceToNat, Nat.reduceBEq, List.size_toArray, List.length_cons, List.length_nil, Bool.false_and, Bool.true_and, Bool.or_false, Bool.false_or, Bool.and_false, Bool.and_true, s12], by simp (disch := first | (simp only [go_sem, Bool.and_self, eq_self]; done) | omega | (simp only [List.length_cons, List.length_nil]; omega)) only [go_sem, ↓reduceIte, Nat.reduceEqDiff, Nat.reduceAdd, Nat.reduceMul, Nat.reduceSub, Int.reduceToNat, Nat.reduceBEq, List.size_toArray, List.length_cons, List.length_nil, Bool.false_and, Bool.true_and, Bool.or_false, Bool.false_or, Bool.and_false, Bool.and_true, s1], by simp (disch := first | (simp only [go_sem, Bool.and_self, eq_self]; done) | omega | (simp only [List.length_cons, List.length_nil]; omega)) only [go_sem, ↓reduceIte, Nat.reduceEqDiff, Nat.reduceAdd, Nat.reduceMul, Nat.reduceSub, Int.reduceToNat, Nat.reduceBEq, List.size_toArray, List.length_cons, List.length_nil, Bool.false_and, Bool.true_and, Bool.or_false, Bool.false_or, Bool.and_false, Bool.and_true, s3], by simp (disch := first | (simp only [go_sem, Bool.and_self, eq_self]; done) | omega | (simp only [List.length_cons, List.length_nil]; omega)) only [go_sem, ↓reduceIte, Nat.reduceEqDiff, Nat.reduceAdd, Nat.reduceMul, Nat.reduceSub, Int.reduceToNat, Nat.reduceBEq, List.size_toArray, List.length_cons, List.length_nil, Bool.false_and, Bool.true_and, Bool.or_false, Bool.false_or, Bool.and_false, Bool.and_true, s4], by simp (disch := first | (simp only [go_sem, Bool.and_self, eq_self]; done) | omega | (simp only [List.length_cons, List.length_nil]; omega)) only [go_sem, ↓reduceIte, Nat.reduceEqDiff, Nat.reduceAdd, Nat.reduceMul, Nat.reduceSub, Int.reduceToNat, Nat.reduceBEq, List.size_toArray, List.length_cons, List.length_nil, Bool.false_and, Bool.true_and, Bool.or_false, Bool.false_or, Bool.and_false, Bool.and_true, s7], by simp (disch := first | (simp only [go_sem, Bool.and_self, eq_self]; done) | omega | (simp only [List.length_cons, List.length_nil]; omega)) only [go_sem, ↓reduceIte, Nat.reduceEqDiff, Nat.reduceAdd, Nat.reduceMul, Nat.reduceSub, Int.reduceToNat, Nat.reduceBEq, List.size_toArray, List.length_cons, List.length_nil, Bool.false_and, Bool.true_and, Bool.or_false, Bool.false_or, Bool.and_false, Bool.and_true, s8], by simp (disch := first | (simp only [go_sem, Bool.and_self, eq_self]; done) | omega | (simp only [List.length_cons, List.length_nil]; omega)) only [go_sem, ↓reduceIte, Nat.reduceEqDiff, Nat.reduceAdd, Nat.reduceMul, Nat.reduceSub, Int.reduceToNat, Nat.reduceBEq, List.size_toArray, List.length_cons, List.length_nil, Bool.false_and, Bool.true_and, Bool.or_false, Bool.false_or, Bool.and_false, Bool.and_true, s11], hnx, by simp (disch := first | (simp only [go_sem, Bool.and_self, eq_self]; done) | omega | (simp only [List.length_cons, List.length_nil]; omega)) only [go_sem, ↓reduceIte, Nat.reduceEqDiff, Nat.reduceAdd, Nat.reduceMul, Nat.reduceSub, Int.reduceToNat, Nat.reduceBEq, List.size_toArray, List.length_cons, List.length_nil, Bool.false_and, Bool.true_and, Bool.or_false, Bool.false_or, Bool.and_false, Bool.and_true]⟩
    | false =>
      rw [htb] at hand hset
      have e1' : ((if false = true then 1 else 0 : Nat) : Int) = 0 := rfl
      have e01 : decide ((0 : Int) = 1) = false := by decide
      rw [e1'] at hand
      simp (disch := first | (simp only [go_sem, Bool.and_self, eq_self]; done) | omega | (simp only [List.length_cons, List.length_nil]; omega)) only [go_sem, ↓reduceIte, Nat.reduceEqDiff, Nat.reduceAdd, Nat.reduceMul, Nat.reduceSub, Int.reduceToNat, Nat.reduceBEq, List.size_toArray, List.length_cons, List.length_nil, Bool.false_and, Bool.true_and, Bool.or_false, Bool.false_or, Bool.and_false, Bool.and_true, s1, s3, s4, s7, s8, s11, s12, hlt, b0, hsh, hl6, hand, h6, hset, e01]
      rw [ForK_normal]
      exact ⟨hlt, by simp (disch := first | (simp only [go_sem, Bool.and_self, eq_self]; done) | omega | (simp only [List.length_cons, List.length_nil]; omega)) only [go_sem, ↓reduceIte, Nat.reduceEqDiff, Nat.reduceAdd, Nat.reduceMul, Nat.reduceSub, Int.reduceToNat, Nat.reduceBEq, List.size_toArray, List.length_cons, List.length_nil, Bool.false_and, Bool.true_and, Bool.or_false, Bool.false_or, Bool.and_false, Bool.and_true, s12], by simp (disch := first | (simp only [go_sem, Bool.and_self, eq_self]; done) | omega | (simp only [List.length_cons, List.length_nil]; omega)) only [go_sem, ↓reduceIte, Nat.reduceEqDiff, Nat.reduceAdd, Nat.reduceMul, Nat.reduceSub, Int.reduceToNat, Nat.reduceBEq, List.size_toArray, List.length_cons, List.length_nil, Bool.false_and, Bool.true_and, Bool.or_false, Bool.false_or, Bool.and_false, Bool.and_true, s1], by simp (disch := first | (simp only [go_sem, Bool.and_self, eq_self]; done) | omega | (simp only [List.length_cons, List.length_nil]; omega)) only [go_sem, ↓reduceIte, Nat.reduceEqDiff, Nat.reduceAdd, Nat.reduceMul, Nat.reduceSub, Int.reduceToNat, Nat.reduceBEq, List.size_toArray, List.length_cons, List.length_nil, Bool.false_and, Bool.true_and, Bool.or_false, Bool.false_or, Bool.and_false, Bool.and_true, s3], by simp (disch := first | (simp only [go_sem, Bool.and_self, eq_self]; done) | omega | (simp only [List.length_cons, List.length_nil]; omega)) only [go_sem, ↓reduceIte, Nat.reduceEqDiff, Nat.reduceAdd, Nat.reduceMul, Nat.reduceSub, Int.reduceToNat, Nat.reduceBEq, List.size_toArray, List.length_cons, List.length_nil, Bool.false_and, Bool.true_and, Bool.or_false, Bool.false_or, Bool.and_false, Bool.and_true, s4], by simp (disch := first | (simp only [go_sem, Bool.and_self, eq_self]; done) | omega | (simp only [List.length_cons, List.length_nil]; omega)) only [go_sem, ↓reduceIte, Nat.reduceEqDiff, Nat.reduceAdd, Nat.reduceMul, Nat.reduceSub, Int.reduceToNat, Nat.reduceBEq, List.size_toArray, List.length_cons, List.length_nil, Bool.false_and, Bool.true_and, Bool.or_false, Bool.false_or, Bool.and_false, Bool.and_true, s7], by simp (disch := first | (simp only [go_sem, Bool.and_self, eq_self]; done) | omega | (simp only [List.length_cons, List.length_nil]; omega)) only [go_sem, ↓reduceIte, Nat.reduceEqDiff, Nat.reduceAdd, Nat.reduceMul, Nat.reduceSub, Int.reduceToNat, Nat.reduceBEq, List.size_toArray, List.length_cons, List.length_nil, Bool.false_and, Bool.true_and, Bool.or_false, Bool.false_or, Bool.and_false, Bool.and_true, s8], by simp (disch := first | (simp only [go_sem, Bool.and_self, eq_self]; done) | omega | (simp only [List.length_cons, List.length_nil]; omega)) only [go_sem, ↓reduceIte, Nat.reduceEqDiff, Nat.reduceAdd, Nat.reduceMul, Nat.reduceSub, Int.reduceToNat, Nat.reduceBEq, List.size_toArray, List.length_cons, List.length_nil, Bool.false_and, Bool.true_and, Bool.or_false, Bool.false_or, Bool.and_false, Bool.and_true, s11], hnx, by simp (disch := first | (simp only [go_sem, Bool.and_self, eq_self]; done) | omega | (simp only [List.length_cons, List.length_nil]; omega)) only [go_sem, ↓reduceIte, Nat.reduceEqDiff, Nat.reduceAdd, Nat.reduceMul, Nat.reduceSub, Int.reduceToNat, Nat.reduceBEq, List.size_toArray, List.length_cons, List.length_nil, Bool.false_and, Bool.true_and, Bool.or_false, Bool.false_or, Bool.and_false, Bool.and_true]⟩
  rintro x st h7 ⟨rfl, s4, s1, s7, s8, hbl⟩ w7 c7 a7 E7 H7 S7 F7
  have E47 := (((E5.trans E6).trans E7)).below
  rw [hbase4] at E47
  have hj7 : J (List.range k) w7 := hJ _ _ _ hj4 E47
  have hy7 : a7.tmps[0]? = some (.func (.yield l) #[] #[]) := Eq.trans F7 (Eq.trans F6 (Eq.trans F5 hy4))
  have hb7 : c7.base = W.heap.size := (((E5.trans E6).trans E7).base).trans hbase4
  clear H4 S4 H5 S5 H6 S6 F5 F6 F7 E5 E6 E7 E47 hj4 hy4
  refine wpIn_seq (wpIn_region ?_)
  show wpOpsIn (rF none) m Try.prog _ _ [0, 1, 2, 3] a7 w7
  have want : ∀ (o : Oper) (f : Nat → Option Bool), o.guard = none → Region.wanted o f = true := fun o f h => by simp [Region.wanted, h]
  simp only [wpOpsIn, List.getElem?_toArray, List.getElem?_cons_zero, List.getElem?_cons_succ, want, if_true]
  have e0 : a7.eval (.tmp 0) = .func (.yield l) #[] #[] := by
    show a7.tmps.getD 0 Go.undef = _
    rw [Array.getD_eq_getD_getElem?, hy7]; rfl
  have hmv : (execOp a7.eval ⟨some 23, .move (.tmp 0), 101, "stop.go:68", #[], none⟩).run Try.prog w7 = .ok (.value (.func (.yield l) #[] #[])) w7 := by rw [← e0]; rfl
  refine next_valueIn (fun c h => by cases h) hmv ?_
  have hput : ∀ (a : Act) (t : Nat) (v : Value), a.tmps.size = 28 → t < 28 → (a.put (some t) v).tmps[t]? = some v := fun a t v h1 h2 => by simp [Act.put, h1, h2]
  have y23 := hput a7 23 (.func (.yield l) #[] #[]) S7.size (by decide)
  have S8 := S7.put (d := some 23) (fun t ht => by cases ht; decide) (VR.undef (w := w7) (c := c7) (.func (.yield l) #[] #[]))
  have hload : StepW Try.prog cfg #[] none (.load 82 (.tmp 4)) (updO st (some 23) .undef) h7 (fun v g => v = uR n k ∧ g = h7) := by
    have hld := loadC_agg (.array 6 4) 6 rfl ((ruleN n n k).flatMap (e1 .bool)) 0 (by rw [flat_len, ruleN_len]; exact Nat.le_refl _)
    have htk : (((ruleN n n k).flatMap (e1 AV.bool)).drop 0).take 6 = (ruleN n n k).flatMap (e1 AV.bool) := by
      rw [List.drop_zero, List.take_of_length_le (by rw [flat_len, ruleN_len]; exact Nat.le_refl _)]
    rw [htk] at hld
    simp (disch := first | (simp only [go_sem, Bool.and_self, eq_self]; done) | omega | (simp only [List.length_cons, List.length_nil]; omega)) only [go_sem, ↓reduceIte, Nat.reduceEqDiff, Nat.reduceAdd, Nat.reduceMul, Nat.reduceSub, Int.reduceToNat, Nat.reduceBEq, List.size_toArray, List.length_cons, List.length_nil, Bool.false_and, Bool.true_and, Bool.or_false, Bool.false_or, Bool.and_false, Bool.and_true, s4, hbl, hld]
    exact rfl
  obtain ⟨kk, v, g, e, rfl, hg⟩ := hload
  rw [hg] at e
  have hu : opRead Try.prog (.load 82 (.tmp 4)) (ev (updO st (some 23) .undef)) h7 none = some (uR n k) := by
    unfold stepK at e
    have hp : opPure Try.prog (.load 82 (.tmp 4)) (ev (updO st (some 23) .undef)) = none := rfl
    simp only [hp] at e
    cases hq : opRead Try.prog (.load 82 (.tmp 4)) (ev (updO st (some 23) .undef)) h7 none with
    | some u => rw [hq] at e; simp only [Option.some.injEq, Prod.mk.injEq, and_true] at e; rw [e]
    | none => rw [hq] at e; simp [opNew, opWrite] at e
  obtain ⟨v8, hr8, V8⟩ := opRead_ok (P := Try.prog) (o := ⟨some 24, .load 82 (.tmp 4), 82, "stop.go:68", #[], none⟩) H7 S8.ev hu
  refine next_valueIn (fun c h => by cases h) hr8 ?_
  have S8' := S8.put (d := some 24) (fun t ht => by cases ht; decide) V8
  have y23' : ((a7.put (some 23) (.func (.yield l) #[] #[])).put (some 24) v8).tmps[23]? = some (.func (.yield l) #[] #[]) := Eq.trans (Frz.put (by decide) _) y23
  have y0' : ((a7.put (some 23) (.func (.yield l) #[] #[])).put (some 24) v8).tmps[0]? = some (.func (.yield l) #[] #[]) := Eq.trans (Frz.put (by decide) _) (Eq.trans (Frz.put (by decide) _) hy7)
  generalize ((a7.put (some 23) (.func (.yield l) #[] #[])).put (some 24) v8) = a8 at S8' y23' y0' ⊢
  have e24 : a8.eval (.tmp 24) = encR n k := uR_inv (w := w7) (c := c7) (by have := S8'.val 24; exact this)
  have e23 : a8.eval (.tmp 23) = .func (.yield l) #[] #[] := by
    show a8.tmps.getD 23 Go.undef = _
    rw [Array.getD_eq_getD_getElem?, y23']; rfl
  obtain ⟨fn, tmps, assign, body, hyr, hR⟩ := hY (List.range k) k w7 hj7 (by rw [List.length_range]; exact hlt)
  have hcall := call_yield (P := Try.prog) hyr (ρ := a8.eval) (o := ⟨some 25, .call ⟨.value (.tmp 23), #[.tmp 24], #[82]⟩, 4, "stop.go:68", #[⟨0, .data⟩, ⟨1, .data⟩], none⟩) rfl e23 (by simp [e24])
  refine ⟨fun _ _ => trivial, ?_⟩
  rw [Oper.semAt_eq _ _ _ (fun c h => by cases h), hcall, Oper.uponIn_round]
  refine ⟨fun h => (by cases h), roundIn_any (hR.mono ?_)⟩
  rintro e W9 (⟨rfl, hj9, hB9⟩ | ⟨rfl, hjx⟩)
  · have E9 := Ext.grow H7 hB9 c7.fz (fun _ h => h) (fun _ h => .inl h)
    have H9 := H7.grow hB9 c7.fz (fun _ h => h) (fun _ h => .inl h)
    have S9 := (S8'.mono E9).put (d := some 25) (fun t ht => by cases ht; decide) (VR.bool (w := W9) true)
    have y25 := hput a8 25 (.bool true) S8'.size (by decide)
    have e25 : (a8.put (some 25) (.bool true)).eval (.tmp 25) = .bool true := by
      show (a8.put (some 25) (.bool true)).tmps.getD 25 Go.undef = _
      rw [Array.getD_eq_getD_getElem?, y25]; rfl
    refine next_valueIn (fun c h => by cases h) (x := .bool false) (w' := W9) (not_run e25) ?_
    have S10 := S9.put (d := some 26) (fun t ht => by cases ht; decide) (VR.bool (w := W9) false)
    have e26 := (S10.ev (.tmp 26)).bool_inv
    refine wpIn_cond_false e26 (wpIn_skip ?_)
    have t1 : (updO (updO (updO (updO st (some 23) .undef) (some 24) (uR n k)) (some 25) (.bool true)) (some 26) (.bool false)) 1 = .pp [I n] := s1
    have t7 : (updO (updO (updO (updO st (some 23) .undef) (some 24) (uR n k)) (some 25) (.bool true)) (some 26) (.bool false)) 7 = I N := s7
    have t8 : (updO (updO (updO (updO st (some 23) .undef) (some 24) (uR n k)) (some 25) (.bool true)) (some 26) (.bool false)) 8 = I k := s8
    generalize (updO (updO (updO (updO st (some 23) .undef) (some 24) (uR n k)) (some 25) (.bool true)) (some 26) (.bool false)) = st9 at S10 t1 t7 t8
    generalize hae : (a8.put (some 25) (.bool true)).put (some 26) (.bool false) = a9 at S10 ⊢
    have y0 : a9.tmps[0]? = some (.func (.yield l) #[] #[]) := by
      rw [← hae]
      exact Eq.trans (Frz.put (by decide) _) (Eq.trans (Frz.put (by decide) _) y0')
    refine WP.in_ hext0 0 rfl rfl (R := fun x st' h' => x = .normal ∧ st' 1 = .pp [I n] ∧ st' 7 = I N ∧ st' 8 = I ((k + 1 : Nat) : Int)) ?_ H9 S10 ?_
    · simp (disch := first | (simp only [go_sem, Bool.and_self, eq_self]; done) | omega | (simp only [List.length_cons, List.length_nil]; omega)) only [go_sem, ↓reduceIte, Nat.reduceEqDiff, Nat.reduceAdd, Nat.reduceMul, Nat.reduceSub, Int.reduceToNat, Nat.reduceBEq, List.size_toArray, List.length_cons, List.length_nil, Bool.false_and, Bool.true_and, Bool.or_false, Bool.false_or, Bool.and_false, Bool.and_true, t1, t7, t8]
      rfl
    rintro x st h9 ⟨rfl, s1, s7, s8⟩ w10 c10 a10 E10 H10 S11 F10
    have hval : a10.tmps.getD 8 Go.undef = .int .i64 ((k + 1 : Nat) : Int) := by
      have := S11.val 8
      rw [s8] at this
      generalize a10.tmps.getD 8 Go.undef = v at this
      cases this; rfl
    have hb10 : c10.base = W.heap.size := E10.base.trans hb7
    have hj10 : J (List.range (k + 1)) w10 := by
      rw [List.range_succ]
      have := E10.below
      rw [show ({ c7 with fz := c7.fz } : Ctx).base = W.heap.size from hb7] at this
      exact hJ _ _ _ hj9 this
    refine ⟨⟨c10, h9, st, k + 1, H10, S11, hb10, s1, s7, s8, by omega, hj10, Eq.trans F10 y0⟩, ?_⟩
    show N - (intOf (a10.tmps.getD 8 Go.undef)).toNat < N - (intOf (a.tmps.getD 8 Go.undef)).toNat
    rw [hval, hval8]
    simp only [intOf]
    omega
  · have y25 := hput a8 25 (.bool false) S8'.size (by decide)
    have e25 : (a8.put (some 25) (.bool false)).eval (.tmp 25) = .bool false := by
      show (a8.put (some 25) (.bool false)).tmps.getD 25 Go.undef = _
      rw [Array.getD_eq_getD_getElem?, y25]; rfl
    refine next_valueIn (fun c h => by cases h) (x := .bool true) (w' := W9) (not_run e25) ?_
    have hs9 : (a8.put (some 25) (.bool false)).tmps.size = 28 := by simp [Act.put, S8'.size]
    have y26 := hput (a8.put (some 25) (.bool false)) 26 (.bool true) hs9 (by decide)
    refine wpIn_cond_true (c := .tmp 26) (by
      show ((a8.put (some 25) (.bool false)).put (some 26) (.bool true)).tmps.getD 26 Go.undef = _
      rw [Array.getD_eq_getD_getElem?, y26]; rfl) (wpIn_ret ?_)
    refine ⟨S8'.defers, _, results_none rfl _ _ _, ⟨_, rfl⟩, .inr ⟨List.range k ++ [k], ?_, hjx⟩⟩
    rw [← List.range_succ, hN]
    have : List.range (2 ^ n) = List.range (k + 1) ++ (List.range (2 ^ n - (k + 1))).map (fun i => k + 1 + i) := by
      rw [← List.range_add, Nat.add_sub_cancel' (by omega)]
    rw [this]
    exact List.prefix_append _ _
end Go.Proofs.Ytgamcclfdkpcgaa

set_option linter.unusedVariables false
set_option linter.unusedSimpArgs false
set_option maxRecDepth 10000
namespace Go.Proofs.Ytgamcclfdkpcgaa
open Go Go.Am Go.RowKit

variable {h h' : Hp} {K : AV → Hp → Prop}

theorem f68_con (n : Int) : Con Try.prog cfg 68 [I n] (.fn 81 [.pp [I n]]) := by
  refine Con_intro Try.func68 rfl ok68 (Nat.le_of_ble_eq_true rfl) rfl ?_
  simp only [Try.f68, Option.getD_some, initSt1]
  simp (disch := first | (simp only [go_sem, Bool.and_self, eq_self]; done) | omega | (simp only [List.length_cons, List.length_nil]; omega)) only [go_sem, ↓reduceIte, Nat.reduceEqDiff, Nat.reduceAdd, Nat.reduceMul, Nat.reduceSub, Int.reduceToNat, Nat.reduceBEq, List.size_toArray, List.length_cons, List.length_nil, Bool.false_and, Bool.true_and, Bool.or_false, Bool.false_or, Bool.and_false, Bool.and_true]
  have hb : (Hp.empty.alloc (.cells false false [I n])).bl 0 = some (.cells false false [I n]) := rfl
  have hs := sealA_fn1 (h := Hp.empty.alloc (.cells false false [I n])) 81 0 false false (I n) rfl hb
  show ((exportV Try.prog false false 94 (Hp.empty.alloc (.cells false false [I n])) [] (.fn 81 [.ptr 0 0])).bind fun r => if isTup r.1 then none else some r.1) = _
  rw [exportV_plain, hs]; rfl

/-- What 'best' needs to know of a chain with n states. -/
structure Ways (c : AV) (n : Nat) (snd bst : Nat → Bool) (eq : Nat → AV) (val : Nat → List (Int × Int)) : Prop where
  sound : ∀ x, Con Try.prog cfg 54 [c, uR n x] (.bool (snd x))
  eqs : ∀ x, snd x = true → Con Try.prog cfg 56 [c, uR n x] (eq x)
  pureE : ∀ x, snd x = true → ∃ cs, eq x = .agg cs ∧ AV.pureL cs = true
  sol : ∀ x, snd x = true → Con Try.prog cfg 55 [eq x, I n] (LP (val x))
  best : ∀ x, snd x = true → Con Try.prog cfg 69 [c, LP (val x)] (.bool (bst x))
/-- The first of some numbers that is taken. -/
def firstOf (snd bst : Nat → Bool) (val : Nat → List (Int × Int)) (xs : List Nat) : List (Int × Int) := match xs.find? fun x => snd x && bst x with | some x => val x | none => []

theorem uR_pure (n x : Nat) : (uR n x).isPure = true := by
  show AV.pureL _ = true
  refine pureL_all fun y hy => ?_
  obtain ⟨b, _, hb⟩ := List.mem_flatMap.1 hy
  simp only [e1, List.mem_singleton] at hb
  rw [hb]; rfl
theorem fn_inv {g : FuncId} {n : Int} {w : World} {c : Ctx} {v : Value} (h : VR w c (.fn g [.pp [I n]]) v) : ∃ ad, v = .func (.func g) #[] #[.pointer (some ad)] ∧ w.cell? ad = some (.int .i64 n) ∧ ad.block < w.heap.size := by
  generalize hq : ([.pp [I n]] : List AV) = q at h
  cases h with
  | fn _ _ vs hl hv =>
    subst hq
    have h0 := hv 0 _ rfl
    have hs : vs.size = 1 := hl.symm
    have hvs : vs = #[vs.getD 0 Go.undef] := by
      refine Array.ext (by simp [hs]) fun j h1 h2 => ?_
      have : j = 0 := by omega
      subst this
      show vs[0] = vs.getD 0 Go.undef
      rw [Array.getD_eq_getD_getElem?, Array.getElem?_eq_getElem h1]; rfl
    generalize vs.getD 0 Go.undef = y at h0 hvs
    subst hvs
    generalize hr : ([I n] : List AV) = r at h0
    cases h0 with
    | pp _ ad cv hfz hcell hc hv2 =>
      subst hr
      have h1 := hc 0 (Nat.lt_succ_self 0)
      have h2 := hv2 0 _ rfl
      generalize cv 0 = z at h1 h2
      cases h2
      have e0 : ad.add 0 = ad := by unfold Addr.add; simp
      rw [e0] at h1
      refine ⟨ad, rfl, h1, ?_⟩
      unfold World.cell? at h1
      cases hb : w.heap[ad.block]? with
      | none => rw [hb] at h1; cases h1
      | some o => exact (Array.getElem?_eq_some_iff.1 hb).1
theorem res_cell {h : Hp} {st : St} {v : AV} (s2 : st 2 = .ptr 1 0) (hb : h.bl 1 = some (.cells false false [v])) : resR Try.prog h st Try.f49.results.toList = some v := by
  have e : Try.f49.results.toList = [.cell 2 28] := rfl
  have hr : rd h none 1 = some [v] := by simp [rd, hb, lims_none]
  rw [e]
  simp [resR, resL, resA, s2, hr, loadA_B, und28, isz28, loadB, aggD]
theorem enters81 (args : Array Value) (w : World) : (callFunc 81 args).run Try.prog w = .ok (.enter 81 args) w := Go.Proofs.enters_of Try.func81 (by kernel_rfl) rfl args w
theorem best_pure (nx : List (List Int)) (pay cost : List Int) (hn : nx.length ≤ 6) {snd bst : Nat → Bool} {eq : Nat → AV} {val : Nat → List (Int × Int)} (Y : Ways (.agg [LLI nx, LI pay, LI cost]) nx.length snd bst eq val) :
    PureOk Try.prog 49 [.agg [LLI nx, LI pay, LI cost]] (LP (firstOf snd bst val (List.range (2 ^ nx.length)))) := by
  refine ⟨⟨_, Try.func49, rfl, by rfl⟩, fun w fz vs hf ha R hR => ?_⟩
  have H0 := ctx_nil (w := w) hf
  obtain ⟨c0, hc0⟩ : ∃ c : Ctx, c = { base := w.heap.size, nx := 0, loc := fun _ => .dead, fz := fz } := ⟨_, rfl⟩
  rw [← hc0] at H0
  have ha' : ArgsR w c0 [.agg [LLI nx, LI pay, LI cost]] vs := by
    refine ⟨ha.1, fun j u hu => ?_⟩
    rw [hc0]; exact VR.base_any (ha.2 j u hu)
  have S0 := args_start ha' (n := 25) (Nat.le_of_ble_eq_true rfl)
  refine (callsIn_wide (n := 5)).1 ?_
  show CallsIn (rF none) 5 Try.prog 49 vs w R
  refine callsIn_of_wp_marks (fn := Try.f49) (c := Try.f49.body.getD .skip) Try.func49 rfl trivial ?_
  have hbase0 : c0.base = w.heap.size := by rw [hc0]
  have hfz0 : c0.fz = fz := by rw [hc0]
  have hntm : Try.f49.ntmps = 25 := rfl
  rw [hntm]
  obtain ⟨a0, ha0⟩ : ∃ a0 : Act, { tmps := vs ++ Array.replicate (25 - vs.size) Go.undef, defers := [] } = a0 := ⟨_, rfl⟩
  rw [ha0] at S0 ⊢
  have hal : ∀ g : Hp, allocB g (some (.agg [LLI nx, LI pay, LI cost])) = some (.ptr g.nx 0, g.alloc (.cells false false [LLI nx, LI pay, LI cost])) := fun g => allocB_agg _ rfl
  generalize hQ : bodyPostM (rF none) 5 Try.prog Try.f49 R = Q
  simp only [Try.f49, Option.getD_some]
  refine wpIn_seq (WP.in_ hext0 25 rfl rfl (R := fun x st h => x = .normal ∧ st 1 = .ptr 0 0 ∧ st 2 = .ptr 1 0 ∧ h = (Hp.empty.alloc (.cells false false [LLI nx, LI pay, LI cost])).alloc (.cells false false [.nil])) ?_ H0 S0 ?_)
  · simp only [initSt1]
    simp (disch := first | (simp only [go_sem, Bool.and_self, eq_self]; done) | omega | (simp only [List.length_cons, List.length_nil]; omega)) only [go_sem, ↓reduceIte, Nat.reduceEqDiff, Nat.reduceAdd, Nat.reduceMul, Nat.reduceSub, Int.reduceToNat, Nat.reduceBEq, List.size_toArray, List.length_cons, List.length_nil, Bool.false_and, Bool.true_and, Bool.or_false, Bool.false_or, Bool.and_false, Bool.and_true, hal]
  rintro x st h ⟨rfl, s1, s2, hh⟩ w1 c1 a1 E1 H1 S1 F1
  obtain ⟨n, hnn⟩ : ∃ n, n = nx.length := ⟨_, rfl⟩
  refine wpIn_seq (WP.in_ hext0 25 rfl rfl (R := fun x st h => x = .normal ∧ st 1 = .ptr 0 0 ∧ st 2 = .ptr 1 0 ∧ st 3 = .ptr 2 0 ∧ h.nx = 3 ∧ h.bl 0 = some (.cells false false [LLI nx, LI pay, LI cost]) ∧ h.bl 1 = some (.cells false false [.nil]) ∧ h.bl 2 = some (.cells false false [I n])) ?_ H1 S1 ?_)
  · rw [hh, hnn]
    simp (disch := first | (simp only [go_sem, Bool.and_self, eq_self]; done) | omega | (simp only [List.length_cons, List.length_nil]; omega)) only [go_sem, ↓reduceIte, Nat.reduceEqDiff, Nat.reduceAdd, Nat.reduceMul, Nat.reduceSub, Int.reduceToNat, Nat.reduceBEq, List.size_toArray, List.length_cons, List.length_nil, Bool.false_and, Bool.true_and, Bool.or_false, Bool.false_or, Bool.and_false, Bool.and_true, s1, s2]
  rintro x st h2 ⟨rfl, s1, s2, s3, hnx, b0, b1, b2⟩ w2 c2 a2 E2 H2 S2 F2
  have k68 := fun h h' K => ConW_any (h := h) (h' := h') (K := K) (f68_con n) rfl
  have hi68 : ∀ h : Hp, importR h (.fn 81 [.pp [I n]]) = (.fn 81 [.pp [I n]], h) := fun _ => rfl
  refine wpIn_seq (wpIn_seq (WP.in_ hext0 25 rfl rfl (R := fun x st h => x = .normal ∧ st 1 = .ptr 0 0 ∧ st 2 = .ptr 1 0 ∧ st 3 = .ptr 2 0 ∧ st 10 = .fn 81 [.pp [I n]] ∧ h = h2) ?_ H2 S2 ?_))
  · simp (disch := first | (simp only [go_sem, Bool.and_self, eq_self]; done) | omega | (simp only [List.length_cons, List.length_nil]; omega)) only [go_sem, ↓reduceIte, Nat.reduceEqDiff, Nat.reduceAdd, Nat.reduceMul, Nat.reduceSub, Int.reduceToNat, Nat.reduceBEq, List.size_toArray, List.length_cons, List.length_nil, Bool.false_and, Bool.true_and, Bool.or_false, Bool.false_or, Bool.and_false, Bool.and_true, s1, s2, s3, b2, k68, hi68]
  rintro x st h3 ⟨rfl, s1, s2, s3, s10, rfl⟩ w3 c3 a3 E3 H3 S3 F3
  obtain ⟨ad, e10, hcell, hadb⟩ := fn_inv (by have := S3.ev (.tmp 10); rwa [show ev st (.tmp 10) = st 10 from rfl, s10] at this)
  refine wpIn_block ?_
  refine range_law (m := 4) e10 (enters81) (rules_seq n (by omega) 4 ad w3 hadb hcell) (fun _ => rfl)
    (fun xs => ∀ x ∈ xs, (snd x && bst x) = false)
    (fun xs => LeftR w3 c3 (fun h => ∃ pre y, xs = pre ++ [y] ∧ (∀ x ∈ pre, (snd x && bst x) = false) ∧ (snd y && bst y) = true ∧ h.bl 1 = some (.cells false false [LP (val y)])))
    (fun x hx => by cases hx) (fun xs W o o' l hle hl ho ho' q => q.turn H3 hle hl ho ho') ?round ?done ?stop
  case round =>
    refine round_WP hext0 25 H3 S3 (by decide) rfl rfl rfl (by kernel_rfl) (encR_ok n) _ _ fun pre x hpre hlen => ?_
    obtain ⟨f0, f1, f2, f3, f4, f5, hru⟩ : ∃ f0 f1 f2 f3 f4 f5, uR n x = .agg [.bool f0, .bool f1, .bool f2, .bool f3, .bool f4, .bool f5] := by
      have hl := ruleN_len n n x
      unfold uR
      match ruleN n n x, hl with
      | [a, b, c, d, e, f], _ => exact ⟨a, b, c, d, e, f, rfl⟩
    have k54 := fun h h' K => ConW_num (h := h) (h' := h') (K := K) (Y.sound x) rfl
    rw [← hnn, hru] at k54
    rw [hru]
    have hst6 : ∀ (h : Hp) (id : Nat), storeC h id 0 6 (some (.cells false false [.bool false, .bool false, .bool false, .bool false, .bool false, .bool false])) [.bool f0, .bool f1, .bool f2, .bool f3, .bool f4, .bool f5] = some (.skp, h.put id (some (.cells false false [.bool f0, .bool f1, .bool f2, .bool f3, .bool f4, .bool f5]))) := fun h id => by simp [storeC, setL, AV.isCell]
    have hld6 : loadC (some (.array 6 4)) (some 6) (some ([.bool f0, .bool f1, .bool f2, .bool f3, .bool f4, .bool f5], 0)) = some (.agg [.bool f0, .bool f1, .bool f2, .bool f3, .bool f4, .bool f5]) := loadC_agg _ 6 rfl _ 0 (by simp)
    have vA1 : viewSt h3 st 1 = .pp [LLI nx, LI pay, LI cost] := by
      simp only [viewSt, s1, viewV, b0, AV.pureL, pure_L, Bool.and_self, if_true, List.drop_zero]
    have vA3 : viewSt h3 st 3 = .pp [I n] := by
      simp only [viewSt, s3, viewV, b2]; rfl
    cases hs : snd x with
    | false =>
      left
      simp (disch := first | (simp only [go_sem, Bool.and_self, eq_self]; done) | omega | (simp only [List.length_cons, List.length_nil]; omega)) only [go_sem, ↓reduceIte, Nat.reduceEqDiff, Nat.reduceAdd, Nat.reduceMul, Nat.reduceSub, Int.reduceToNat, Nat.reduceBEq, List.size_toArray, List.length_cons, List.length_nil, Bool.false_and, Bool.true_and, Bool.or_false, Bool.false_or, Bool.and_false, Bool.and_true, vA1, vA3, hst6, hld6, k54, hs]
      intro y hy
      rcases List.mem_append.1 hy with hy | hy
      · exact hpre y hy
      · rw [List.mem_singleton.1 hy, hs]; rfl
    | true =>
    obtain ⟨cs, heq, hpe⟩ := Y.pureE x hs
    have c56 := Y.eqs x hs
    have c55 := Y.sol x hs
    rw [← hnn, hru] at c56
    rw [← hnn] at c55
    rw [heq] at c56 c55
    have k56 : ∀ (h : Hp) K, ConW Try.prog cfg 56 h (some ([.agg [LLI nx, LI pay, LI cost], .agg [.bool f0, .bool f1, .bool f2, .bool f3, .bool f4, .bool f5]], h)) K = K (.agg cs) h := fun h K => by
      cases hsc : (AV.agg cs).isScalar with
      | true => exact ConW_num c56 hsc
      | false => exact ConW_any c56 hsc
    have k55 := fun h h' K => ConW_any (h := h) (h' := h') (K := K) c55 rfl
    have hi55 : ∀ (h : Hp) (l : List (Int × Int)), importR h (LP l) = (LP l, h) := fun _ _ => rfl
    have k69 := fun h h' K => ConW_num (h := h) (h' := h') (K := K) (Y.best x hs) rfl
    have hsE : ∀ h : Hp, sealA h (.agg cs) = some (.agg cs, h) := fun h => sealA_agg cs hpe
    cases hb : bst x with
    | false =>
      left
      simp (disch := first | (simp only [go_sem, Bool.and_self, eq_self]; done) | omega | (simp only [List.length_cons, List.length_nil]; omega)) only [go_sem, ↓reduceIte, Nat.reduceEqDiff, Nat.reduceAdd, Nat.reduceMul, Nat.reduceSub, Int.reduceToNat, Nat.reduceBEq, List.size_toArray, List.length_cons, List.length_nil, Bool.false_and, Bool.true_and, Bool.or_false, Bool.false_or, Bool.and_false, Bool.and_true, vA1, vA3, hst6, hld6, k54, hs, k56, hsE, k55, hi55, k69, hb]
      intro y hy
      rcases List.mem_append.1 hy with hy | hy
      · exact hpre y hy
      · rw [List.mem_singleton.1 hy, hs, hb]; rfl
    | true =>
      right
      have hstL : ∀ h : Hp, storeC h 1 0 1 (some (.cells false false [.nil])) [LP (val x)] = some (.skp, h.put 1 (some (.cells false false [LP (val x)]))) := fun h => storeC_single _ _ _ _ rfl
      simp (disch := first | (simp only [go_sem, Bool.and_self, eq_self]; done) | omega | (simp only [List.length_cons, List.length_nil]; omega)) only [go_sem, ↓reduceIte, Nat.reduceEqDiff, Nat.reduceAdd, Nat.reduceMul, Nat.reduceSub, Int.reduceToNat, Nat.reduceBEq, List.size_toArray, List.length_cons, List.length_nil, Bool.false_and, Bool.true_and, Bool.or_false, Bool.false_or, Bool.and_false, Bool.and_true, s1, s2, s3, hnx, b0, b1, b2, hst6, hld6, k54, hs, k56, hsE, k55, hi55, k69, hb, hstL]
      exact ⟨pre, x, rfl, hpre, by rw [hs, hb]; rfl, rfl⟩
  case done =>
    intro D xs W hxs hφ hB hD hK
    have hltD := (Array.getElem?_eq_some_iff.1 hK).1
    have g2 : ∀ b, (c3.fz b ∨ b = D) → c3.fz b ∨ (w3.heap.size ≤ b ∧ b < W.heap.size) := fun b hb => by
      rcases hb with hb | rfl
      · exact .inl hb
      · exact .inr ⟨hD, hltD⟩
    have E4 := Ext.grow H3 hB (fun b => c3.fz b ∨ b = D) (fun _ h => .inl h) g2
    have H4 := H3.grow hB (fun b => c3.fz b ∨ b = D) (fun _ h => .inl h) g2
    have S4 := S3.mono E4
    have hw : opWrite Try.prog (.store 28 (.tmp 2) (.const (.slice none 0 0))) (ev st) h3 = some (.skp, h3.put 1 (some (.cells false false [.nil]))) := by
      show storeB h3 (isz Try.prog 28) (st 2) .nil = _
      rw [s2, isz28]
      simp [storeB, b1, AV.cells, AV.isCell, setL]
    obtain ⟨nxt, w5, c5, hr5, E5, H5, hnx5⟩ := opWrite_ok (P := Try.prog) (o := ⟨none, .store 28 (.tmp 2) (.const (.slice none 0 0)), 0, "stop.go:203", #[], none⟩) H4 S4.ev hw
    have step : ∀ (b : Act) (K : Act → World → Prop), b.tmps = a3.tmps → K b w5 → Oper.wpIn (rF none) 5 Try.prog ⟨none, .store 28 (.tmp 2) (.const (.slice none 0 0)), 0, "stop.go:203", #[], none⟩ b W K (Exit.then (Code.wpIn (rF none) 5 Try.prog .ret Q) Q) := fun b K hb hK => by
      have he : b.eval = a3.eval := by
        funext x
        cases x <;> simp [Act.eval, hb]
      rw [← he] at hr5
      rcases hnx5 with ⟨x, rfl, h4⟩ | ⟨rfl, _⟩
      · exact next_valueIn (fun c h => by cases h) hr5 hK
      · exact next_skipIn (fun c h => by cases h) hr5 hK
    refine wpIn_seq (wpIn_region ?_)
    show wpOpsIn (rF none) 5 Try.prog _ _ [0] _ W
    have want : ∀ (o : Oper) (f : Nat → Option Bool), o.guard = none → Region.wanted o f = true := fun o f h => by simp [Region.wanted, h]
    simp only [wpOpsIn, List.getElem?_toArray, List.getElem?_cons_zero, List.getElem?_cons_succ, want, if_true]
    refine step _ _ rfl ?_
    refine wpIn_ret ?_
    rw [← hQ]
    have hK5 : w5.heap[D]? = some (.deferred (some [])) := (E5.keep D (.inr rfl)).trans hK
    have hff : firstOf snd bst val (List.range (2 ^ nx.length)) = [] := by
      rw [← hnn, ← hxs, firstOf]
      rw [List.find?_eq_none.2 fun x hx => by rw [hφ x hx]; simp]
    rw [hff] at hR
    have Eall := ((((E1.trans E2).trans E3).trans E4).trans E5)
    have hSd : ({ a3 with defers := { target := .collected D, args := #[] } :: a3.defers } : Act) = { a3 with defers := [{ target := .collected D, args := #[] }] } := by rw [S3.defers]
    rw [hSd]
    have S5 := S4.mono E5
    refine leave_ok (n := 25) (v := .nil) (r := .lst []) (ow := false) (kn := false) (ts := [28]) Eall H5 (a := a3) (st := st) S5 hK5 ?_ ?_ ?_ ?_ ?_
    · rw [hbase0]; have := E1.trans (E2.trans E3); have h1 := this.below.size; omega
    · intro b hb e
      rw [hfz0] at hb
      have h1 := hf b hb
      have := (E1.trans (E2.trans E3)).below.size
      omega
    · have hp1 : (h3.put 1 (some (.cells false false [.nil]))).bl 1 = some (.cells false false [.nil]) := by rw [put_bl, if_pos rfl]
      exact res_cell s2 hp1
    · rfl
    · rw [hbase0, hfz0]; exact hR
  case stop =>
    intro D xs W hpre hψ hD hK
    obtain ⟨c', h', E', H', pre, y, rfl, hno, hyes, hb1⟩ := hψ
    have S' := S3.mono E'
    show Q .ret _ W
    rw [← hQ]
    have hSd : ({ a3 with defers := { target := .collected D, args := #[] } :: a3.defers } : Act) = { a3 with defers := [{ target := .collected D, args := #[] }] } := by rw [S3.defers]
    rw [hSd]
    have Eall := (((E1.trans E2).trans E3).trans E')
    have hff : firstOf snd bst val (List.range (2 ^ nx.length)) = val y := by
      obtain ⟨m, hm⟩ := hpre
      rw [← hnn, ← hm, firstOf]
      have : (pre ++ [y] ++ m).find? (fun x => snd x && bst x) = some y := by
        rw [List.append_assoc, List.find?_append, List.find?_eq_none.2 fun x hx => by rw [hno x hx]; simp]
        simp [hyes]
      rw [this]
    rw [hff] at hR
    refine leave_ok (n := 25) (v := LP (val y)) (r := LP (val y)) (ow := false) (kn := false) (ts := [28]) Eall H' (a := a3) (st := st) S' hK ?_ ?_ ?_ ?_ ?_
    · rw [hbase0]; have := E1.trans (E2.trans E3); have h1 := this.below.size; omega
    · intro b hb e
      rw [hfz0] at hb
      have h1 := hf b hb
      have := (E1.trans (E2.trans E3)).below.size
      omega
    · exact res_cell s2 hb1
    · exact export_L false 28 (val y)
    · rw [hbase0, hfz0]; exact hR
end Go.Proofs.Ytgamcclfdkpcgaa

set_option linter.unusedVariables false
set_option linter.unusedSimpArgs false
set_option maxRecDepth 10000
namespace Go.Proofs.Ytgamcclfdkpcgaa
open Go Go.Am Go.RowKit

variable {h h' : Hp} {K : AV → Hp → Prop}

def cA : AV := .agg [LLI [[0, 4], [0, 0]], LI [1, 5], LI [2, 0]]
def uA (b0 b1 : Bool) : AV := .agg [.bool b0, .bool b1, .bool false, .bool false, .bool false, .bool false]
noncomputable def callA (f : FuncId) (args : List AV) : AV := (callP Try.prog cfg 400 f args).getD .skp
def boolA : AV → Bool
  | .bool b => b
  | _ => false
def fracA : AV → List (Int × Int)
  | .lst rows => rows.map fun r => match r with | [.int _ a, .int _ b] => (a, b) | _ => (0, 0)
  | _ => []
def aggA : AV → List AV
  | .agg cs => cs
  | _ => []
noncomputable def sndA (b0 b1 : Bool) : Bool := boolA (callA 54 [cA, uA b0 b1])
noncomputable def eqA (b0 b1 : Bool) : List AV := aggA (callA 56 [cA, uA b0 b1])
noncomputable def valA (b0 b1 : Bool) : List (Int × Int) := fracA (callA 55 [.agg (eqA b0 b1), I 2])
noncomputable def bstA (b0 b1 : Bool) : Bool := boolA (callA 69 [cA, LP (valA b0 b1)])
theorem uA_ok (x : Nat) : uR 2 x = uA (x.testBit 0) (x.testBit 1) := rfl
theorem run54 : ∀ b0 b1, callP Try.prog cfg 400 54 [cA, uA b0 b1] = some (.bool (sndA b0 b1))
  | true, true => by kernel_rfl
  | true, false => by kernel_rfl
  | false, true => by kernel_rfl
  | false, false => by kernel_rfl
theorem run56 : ∀ b0 b1, callP Try.prog cfg 400 56 [cA, uA b0 b1] = some (.agg (eqA b0 b1))
  | true, true => by kernel_rfl
  | true, false => by kernel_rfl
  | false, true => by kernel_rfl
  | false, false => by kernel_rfl
theorem pure56 : ∀ b0 b1, AV.pureL (eqA b0 b1) = true
  | true, true => by kernel_rfl
  | true, false => by kernel_rfl
  | false, true => by kernel_rfl
  | false, false => by kernel_rfl
theorem run55 : ∀ b0 b1, callP Try.prog cfg 400 55 [.agg (eqA b0 b1), I 2] = some (LP (valA b0 b1))
  | true, true => by kernel_rfl
  | true, false => by kernel_rfl
  | false, true => by kernel_rfl
  | false, false => by kernel_rfl
theorem run69 : ∀ b0 b1, callP Try.prog cfg 400 69 [cA, LP (valA b0 b1)] = some (.bool (bstA b0 b1))
  | true, true => by kernel_rfl
  | true, false => by kernel_rfl
  | false, true => by kernel_rfl
  | false, false => by kernel_rfl
theorem ways : Ways cA 2 (fun x => sndA (x.testBit 0) (x.testBit 1)) (fun x => bstA (x.testBit 0) (x.testBit 1)) (fun x => .agg (eqA (x.testBit 0) (x.testBit 1))) (fun x => valA (x.testBit 0) (x.testBit 1)) :=
  ⟨fun x => by rw [uA_ok]; exact ⟨400, run54 _ _⟩, fun x _ => by rw [uA_ok]; exact ⟨400, run56 _ _⟩, fun x _ => ⟨_, rfl, pure56 _ _⟩, fun x _ => ⟨400, run55 _ _⟩, fun x _ => ⟨400, run69 _ _⟩⟩
theorem best_a : firstOf (fun x => sndA (x.testBit 0) (x.testBit 1)) (fun x => bstA (x.testBit 0) (x.testBit 1)) (fun x => valA (x.testBit 0) (x.testBit 1)) (List.range (2 ^ 2)) = [(3, 1), (5, 1)] := by kernel_rfl
theorem f49_a : PureOk Try.prog 49 [cA] (LP [(3, 1), (5, 1)]) := by
  rw [← best_a]
  exact best_pure [[0, 4], [0, 0]] [1, 5] [2, 0] (by decide) ways

def extK (f : FuncId) : List AV → Option AV
  | [.agg [.lst [[.lst [[.int .i64 0], [.int .i64 4]]], [.lst [[.int .i64 0], [.int .i64 0]]]], .lst [[.int .i64 1], [.int .i64 5]], .lst [[.int .i64 2], [.int .i64 0]]]] =>
    if f = 49 then some (LP [(3, 1), (5, 1)]) else none
  | _ => none
def cfgK : Cfg := { cfg with ext := extK }
theorem hextK : ExtOk Try.prog cfgK := by
  intro f args r he
  have he : extK f args = some r := he
  unfold extK at he
  split at he
  · split at he
    · rename_i hf
      cases he
      subst hf
      exact ⟨f49_a, fun _ => rfl⟩
    · cases he
  · cases he
theorem f21_run : callP Try.prog cfgK 500 21 [] = some (.bool true) := by kernel_rfl
theorem f21_pure : PureOk Try.prog 21 [] (.bool true) := (sound hextK 500).2.2.1 _ _ _ f21_run
end Go.Proofs.Ytgamcclfdkpcgaa

set_option linter.unusedVariables false
set_option linter.unusedSimpArgs false
set_option maxRecDepth 10000
namespace Go.Proofs.Ytgamcclfdkpcgaa
open Go Go.Am Go.RowKit

variable {c : Cfg} {h h' : Hp} {K : AV → Hp → Prop} {ops : Array Oper} {lim : Option Nat} {st : St}

@[go_sem ↓ high] theorem W_b37z : StepW Try.prog c ops lim (.build 37 #[]) st h K = K (.agg [I 0, I 0]) h := by
  rw [W_build, show buildB Try.prog (Try.prog.underlying 37) (izero Try.prog 37) ((#[] : Array (Nat × Operand)).toList.map fun p => (p.1, ev st p.2)) = some (.agg [I 0, I 0]) by kernel_rfl]
  exact getW_some _
/-- Two numbers, as a fraction. -/
noncomputable def mk37 (x y : AV) : Option AV := buildB Try.prog (Try.prog.underlying 37) (izero Try.prog 37) [(0, x), (1, y)]
@[go_sem ↓ high] theorem W_b37 (a b : Operand) : StepW Try.prog c ops lim (.build 37 #[(0, a), (1, b)]) st h K = getW (mk37 (ev st a) (ev st b)) h K := by
  rw [W_build]; rfl
@[go_sem] theorem mk37_I (x y : Int) : mk37 (I x) (I y) = some (.agg [I x, I y]) := by kernel_rfl
noncomputable def eq37 (x y : AV) : Option AV := binA Try.prog .eql 37 x y
noncomputable def ne37 (x y : AV) : Option AV := binA Try.prog .neq 37 x y
@[go_sem ↓ high] theorem W_eq37 (x y : Operand) (z) : StepW Try.prog c ops lim (.binOp .eql 37 x y z) st h K = getW (eq37 (ev st x) (ev st y)) h K := StepW_pureOp rfl rfl rfl rfl fun _ => rfl
@[go_sem ↓ high] theorem W_ne37 (x y : Operand) (z) : StepW Try.prog c ops lim (.binOp .neq 37 x y z) st h K = getW (ne37 (ev st x) (ev st y)) h K := StepW_pureOp rfl rfl rfl rfl fun _ => rfl
@[go_sem] theorem eq37_I (a b c d : Int) : eq37 (.agg [I a, I b]) (.agg [I c, I d]) = some (.bool (decide (a = c) && decide (b = d))) := by
  have : eq37 (.agg [I a, I b]) (.agg [I c, I d]) = some (.bool ((a == c && (b == d && true)) == true)) := by kernel_rfl
  rw [this]; simp [Bool.beq_eq_decide_eq]
@[go_sem] theorem ne37_I (a b c d : Int) : ne37 (.agg [I a, I b]) (.agg [I c, I d]) = some (.bool (!(decide (a = c) && decide (b = d)))) := by
  have : ne37 (.agg [I a, I b]) (.agg [I c, I d]) = some (.bool ((a == c && (b == d && true)) == false)) := by kernel_rfl
  rw [this]; simp [Bool.beq_eq_decide_eq]

@[go_sem] theorem storeC_w2 (id : Nat) (row : Bool) (a b x y : AV) : storeC h id 0 2 (some (.cells false row [a, b])) [x, y] = if (x.isCell && y.isCell) = true then some (.skp, h.put id (some (.cells false row [x, y]))) else none := by
  simp [storeC, setL]
@[go_sem] theorem storeC_w3 (id : Nat) (row : Bool) (a b c x y z : AV) : storeC h id 0 3 (some (.cells false row [a, b, c])) [x, y, z] = if (x.isCell && (y.isCell && z.isCell)) = true then some (.skp, h.put id (some (.cells false row [x, y, z]))) else none := by
  simp [storeC, setL]

@[go_sem] theorem ev_nilmap : ev st (.const (.map none)) = .nilmp := rfl

/-! ### Results that lie in memory -/
def resC (P : Program) (h : Hp) (t : TypeId) : AV → Option AV
  | .ptr id off => loadC (P.underlying t) (isz P t) (cellsAt none h (.ptr id off))
  | _ => none
@[go_sem] theorem resC_ptr (P : Program) (t : TypeId) (id off : Nat) : resC P h t (.ptr id off) = loadC (P.underlying t) (isz P t) (cellsAt none h (.ptr id off)) := rfl
theorem resA_cell (P : Program) (a t : Nat) : resA P h st (.cell a t) = resC P h t (st a) := by
  simp only [resA]
  cases st a <;> try rfl
  rename_i id off
  simp only [resC, loadC, cellsAt, loadA_B]
  cases rd h none id <;> rfl
@[go_sem] theorem resR_c (P : Program) (a t : Nat) : resR P h st [.cell a t] = resC P h t (st a) := by
  simp only [resR, resL, resA_cell]; cases resC P h t (st a) <;> rfl
@[go_sem] theorem resR_ct (P : Program) (a t u : Nat) : resR P h st [.cell a t, .tmp u] = (resC P h t (st a)).bind fun v => some (.tup [v, st u]) := by
  simp only [resR, resL, resA_cell]; cases resC P h t (st a) <;> rfl
@[go_sem] theorem resR_tc (P : Program) (a t w : Nat) : resR P h st [.tmp w, .cell a t] = (resC P h t (st a)).bind fun v => some (.tup [st w, v]) := by
  simp only [resR, resL, resA_cell]; cases resC P h t (st a) <;> rfl
@[go_sem] theorem resR_tct (P : Program) (a t u w : Nat) : resR P h st [.tmp w, .cell a t, .tmp u] = (resC P h t (st a)).bind fun v => some (.tup [st w, v, st u]) := by
  simp only [resR, resL, resA_cell]; cases resC P h t (st a) <;> rfl
@[go_sem] theorem resR_cct (P : Program) (a t b t' u : Nat) : resR P h st [.cell a t, .cell b t', .tmp u] = (resC P h t (st a)).bind fun v => (resC P h t' (st b)).bind fun v' => some (.tup [v, v', st u]) := by
  simp only [resR, resL, resA_cell]; cases resC P h t (st a) <;> cases resC P h t' (st b) <;> rfl

/-! ### copy -/
def slId : AV → Nat
  | .sl id _ _ _ => id
  | _ => 0
@[go_sem] theorem slId_sl (id o n s : Nat) : slId (.sl id o n s) = id := rfl
def copyC (h : Hp) (u : Option TypeDesc) (s : Option Nat) (x : AV) (b : Option Blk) (ys : Option (List AV)) (m : Option Nat) : Option (AV × Hp) :=
  match u, x with
  | some (.slice _), .sl id off n sz => match s, ys, m, b with
    | some sz', some ys, some m, some (.cells false row flat) =>
      if sz' = sz ∧ 0 < sz ∧ ys.length = m * sz ∧ off + n * sz ≤ flat.length ∧ ys.all AV.isCell then
        some (.int .i64 (min m n : Nat), h.put id (some (.cells false row (setL flat off (ys.take (min m n * sz)))))) else none
    | _, _, _, _ => none
  | _, _ => none
@[go_sem ↓] theorem W_copy (x y : Operand) (t t' : TypeId) : StepW Try.prog c ops lim (.call ⟨.builtin .copy, #[x, y], #[t, t']⟩) st h K =
    getW2 (copyC h (Try.prog.underlying t) (isz Try.prog (match Try.prog.underlying t with | some (.slice e) => e | _ => 0)) (ev st x) (h.bl (slId (ev st x))) (cellsOf h none (ev st y)) (lenA (ev st y))) K := by
  refine StepW_writeOp ?_ rfl rfl rfl fun _ => rfl
  simp only [opWrite, copyC, List.getElem?_toArray, List.getElem?_cons_zero, List.getElem?_cons_succ, Option.map_some]
  generalize ev st x = v
  cases v <;> dsimp only <;> generalize Try.prog.underlying t = u <;> (cases u with
    | none => rfl
    | some d => cases d <;> rfl)
theorem setL_front {α : Type} (f : α → AV) (vs xs : List α) (hl : vs.length ≤ xs.length) : setL (xs.flatMap (e1 f)) 0 (vs.flatMap (e1 f)) = (vs ++ xs.drop vs.length).flatMap (e1 f) := by
  have e : ∀ ys : List α, ys.flatMap (e1 f) = ys.map f := by
    intro ys
    induction ys with
    | nil => rfl
    | cons y ys ih => rw [List.flatMap_cons, ih]; rfl
  rw [e, e, e]
  refine List.ext_getElem? fun j => ?_
  rw [(setL_get (vs.map f) (xs.map f) 0 (by simpa using hl)).2 j]
  simp only [Nat.zero_le, true_and, Nat.zero_add, List.length_map, Nat.sub_zero]
  split
  · rename_i hj
    rw [List.map_append, List.getElem?_append_left (by simpa using hj)]
  · rename_i hj
    rw [List.map_append, List.getElem?_append_right (by simp; omega)]
    simp only [List.getElem?_map, List.length_map, List.getElem?_drop]
    congr 2; omega
@[go_sem] theorem copyC_I (e id n : Nat) (row : Bool) (xs vs : List Int) (hl : xs.length = n) (hv : vs.length ≤ n) :
    copyC h (some (.slice e)) (some 1) (.sl id 0 n 1) (some (.cells false row (xs.flatMap (e1 I)))) (some (vs.flatMap (e1 I))) (some vs.length) =
      some (I vs.length, h.put id (some (.cells false row ((vs ++ xs.drop vs.length).flatMap (e1 I))))) := by
  have h1 : (vs.flatMap (e1 I)).all AV.isCell = true := by
    refine List.all_eq_true.2 fun x hx => ?_
    obtain ⟨a, _, ha⟩ := List.mem_flatMap.1 hx
    simp only [e1, List.mem_singleton] at ha
    subst ha; rfl
  have h2 : min vs.length n = vs.length := by omega
  unfold copyC; dsimp only
  rw [if_pos ⟨rfl, by decide, by rw [flat_len]; omega, by rw [flat_len]; omega, h1⟩, h2, List.take_of_length_le (by rw [flat_len]; omega), setL_front _ _ _ (by omega)]

/-! ### A part of an array -/
def sliceC (s : Option Nat) (n off id : Nat) (lo hi : Option AV) (b : Option Blk) (l : Bool) : Option AV :=
  (hiB hi n).bind fun b' => (loB lo b').bind fun a => match s, b with
    | some sz, some (.cells _ false flat) => if off + n * sz ≤ flat.length ∧ n ≤ maxLen ∧ l = true then some (.sl id (off + a * sz) (b' - a) sz) else none
    | _, _ => none
@[go_sem] theorem sliceB_arr (P : Program) (n e id off : Nat) (lo hi : Option AV) : sliceB P (some (.array n e)) (.ptr id off) lo hi h lim = sliceC (isz P e) n off id lo hi (h.bl id) (lims lim id) := rfl
@[go_sem] theorem sliceC_all (id : Nat) (fz : Bool) (xs : List Int) (hl : xs.length = 10) : sliceC (some 1) 10 0 id none none (some (.cells fz false (xs.flatMap (e1 I)))) true = some (.sl id 0 10 1) := by
  have : (10 : Nat) ≤ maxLen := by decide
  have hfl : (xs.flatMap (e1 I)).length = 10 := by rw [flat_len, hl]
  generalize xs.flatMap (e1 I) = fl at hfl
  simp [sliceC, hiB, loB, hfl, this]
@[go_sem] theorem sliceC_to (id : Nat) (fz : Bool) (xs : List Int) (m : Int) (hl : xs.length = 10) (h0 : 0 ≤ m) (h1 : m ≤ 10) : sliceC (some 1) 10 0 id none (some (I m)) (some (.cells fz false (xs.flatMap (e1 I)))) true = some (.sl id 0 m.toNat 1) := by
  have : (10 : Nat) ≤ maxLen := by decide
  have hfl : (xs.flatMap (e1 I)).length = 10 := by rw [flat_len, hl]
  generalize xs.flatMap (e1 I) = fl at hfl
  simp [sliceC, hiB, loB, boundA, hfl, this, h0, h1]


end Go.Proofs.Ytgamcclfdkpcgaa

set_option linter.unusedVariables false
set_option linter.unusedSimpArgs false
set_option maxRecDepth 10000
namespace Go.Proofs.Ytgamcclfdkpcgaa
open Go Go.Am Go.RowKit

variable {h h' : Hp} {K : AV → Hp → Prop}

def inB (n lo hi : Int) : Bool := decide (lo ≤ n) && decide (n ≤ hi)
theorem f50_con (n lo hi : Int) : Con Try.prog cfg 50 [I n, I lo, I hi] (.bool (inB n lo hi)) := by
  by_cases hc : lo ≤ n
  · have : inB n lo hi = decide (n ≤ hi) := by simp [inB, hc]
    rw [this]
    refine Con_intro Try.func50 rfl ok50 (Nat.le_of_ble_eq_true rfl) rfl ?_
    simp only [Try.f50, Option.getD_some, initSt3]
    simp (disch := first | (simp only [go_sem, Bool.and_self, eq_self]; done) | omega | (simp only [List.length_cons, List.length_nil]; omega)) only [go_sem, ↓reduceIte, Nat.reduceEqDiff, Nat.reduceAdd, Nat.reduceMul, Nat.reduceSub, Int.reduceToNat, Nat.reduceBEq, List.size_toArray, List.length_cons, List.length_nil, Bool.false_and, Bool.true_and, Bool.or_false, Bool.false_or, Bool.and_false, Bool.and_true, hc]
  · have : inB n lo hi = false := by simp [inB, hc]
    rw [this]
    refine Con_intro Try.func50 rfl ok50 (Nat.le_of_ble_eq_true rfl) rfl ?_
    simp only [Try.f50, Option.getD_some, initSt3]
    simp (disch := first | (simp only [go_sem, Bool.and_self, eq_self]; done) | omega | (simp only [List.length_cons, List.length_nil]; omega)) only [go_sem, ↓reduceIte, Nat.reduceEqDiff, Nat.reduceAdd, Nat.reduceMul, Nat.reduceSub, Int.reduceToNat, Nat.reduceBEq, List.size_toArray, List.length_cons, List.length_nil, Bool.false_and, Bool.true_and, Bool.or_false, Bool.false_or, Bool.and_false, Bool.and_true, hc]
@[go_sem] theorem k50 (n lo hi : Int) : ConW Try.prog cfg 50 h (some ([I n, I lo, I hi], h')) K = K (.bool (inB n lo hi)) h := ConW_num (f50_con n lo hi) rfl

def gcdI (a b : Int) : Int := (Int.gcd a b : Int)
theorem gcdI_step (a b : Int) : gcdI b (a.tmod b) = gcdI a b := by
  unfold gcdI
  rw [Int.gcd_comm a b]
  congr 1
  have h1 : b.gcd (a.tmod b) = b.natAbs.gcd (a.natAbs % b.natAbs) := by
    show b.natAbs.gcd (a.tmod b).natAbs = _
    rw [Int.natAbs_tmod]
  rw [h1, Nat.gcd_comm b.natAbs (a.natAbs % b.natAbs), ← Nat.gcd_rec]
  rfl
theorem gcdI_zero (a : Int) : gcdI a 0 = (a.natAbs : Int) := by
  unfold gcdI; rw [Int.gcd_zero_right]
theorem gcdI_nonneg (a b : Int) : 0 ≤ gcdI a b := Int.natCast_nonneg _
theorem gcdI_pos {a b : Int} (hb : b ≠ 0) : 0 < gcdI a b := by
  unfold gcdI
  have : Int.gcd a b ≠ 0 := by rw [Ne, Int.gcd_eq_zero_iff]; omega
  omega
abbrev big : Int := 4611686018427387904
theorem tmod_lt_abs (x : Int) {y : Int} (hy : y ≠ 0) : (x.tmod y).natAbs < y.natAbs := by
  rw [Int.natAbs_tmod]; exact Nat.mod_lt _ (by omega)
theorem f79_con (a b : Int) (ha : -big ≤ a ∧ a ≤ big) (hb : -big ≤ b ∧ b ≤ big) : Con Try.prog cfg 79 [I a, I b] (I (gcdI a b)) := by
  refine Con_intro Try.func79 rfl ok79 (Nat.le_of_ble_eq_true rfl) rfl ?_
  simp only [Try.f79, Option.getD_some, initSt2]
  simp (disch := first | (simp only [go_sem, Bool.and_self, eq_self]; done) | omega | (simp only [List.length_cons, List.length_nil]; omega)) only [go_sem, ↓reduceIte, Nat.reduceEqDiff, Nat.reduceAdd, Nat.reduceMul, Nat.reduceSub, Int.reduceToNat, Nat.reduceBEq, List.size_toArray, List.length_cons, List.length_nil, Bool.false_and, Bool.true_and, Bool.or_false, Bool.false_or, Bool.and_false, Bool.and_true]
  refine WP_cut (fun st h => ∃ x : Int, -big ≤ x ∧ x ≤ big ∧ (x.natAbs : Int) = gcdI a b ∧ st 0 = I x) ?_ ?_
  · refine WP_loopK (fun m st h => ∃ x y : Int, m = y.natAbs ∧ -big ≤ x ∧ x ≤ big ∧ -big ≤ y ∧ y ≤ big ∧ gcdI x y = gcdI a b ∧ st 0 = I x ∧ st 1 = I y) b.natAbs
      ⟨a, b, rfl, ha.1, ha.2, hb.1, hb.2, rfl, by simp (disch := first | (simp only [go_sem, Bool.and_self, eq_self]; done) | omega | (simp only [List.length_cons, List.length_nil]; omega)) only [go_sem, ↓reduceIte, Nat.reduceEqDiff, Nat.reduceAdd, Nat.reduceMul, Nat.reduceSub, Int.reduceToNat, Nat.reduceBEq, List.size_toArray, List.length_cons, List.length_nil, Bool.false_and, Bool.true_and, Bool.or_false, Bool.false_or, Bool.and_false, Bool.and_true], by simp (disch := first | (simp only [go_sem, Bool.and_self, eq_self]; done) | omega | (simp only [List.length_cons, List.length_nil]; omega)) only [go_sem, ↓reduceIte, Nat.reduceEqDiff, Nat.reduceAdd, Nat.reduceMul, Nat.reduceSub, Int.reduceToNat, Nat.reduceBEq, List.size_toArray, List.length_cons, List.length_nil, Bool.false_and, Bool.true_and, Bool.or_false, Bool.false_or, Bool.and_false, Bool.and_true]⟩ ?_
    rintro n st h ⟨x, y, rfl, hx0, hx1, hy0, hy1, hgg, s0, s1⟩
    by_cases hy : y = 0
    · subst hy
      rw [gcdI_zero] at hgg
      simp (disch := first | (simp only [go_sem, Bool.and_self, eq_self]; done) | omega | (simp only [List.length_cons, List.length_nil]; omega)) only [go_sem, ↓reduceIte, Nat.reduceEqDiff, Nat.reduceAdd, Nat.reduceMul, Nat.reduceSub, Int.reduceToNat, Nat.reduceBEq, List.size_toArray, List.length_cons, List.length_nil, Bool.false_and, Bool.true_and, Bool.or_false, Bool.false_or, Bool.and_false, Bool.and_true, s0, s1]
      exact ⟨x, hx0, hx1, hgg, rfl⟩
    have hlt := tmod_lt_abs x hy
    simp (disch := first | (simp only [go_sem, Bool.and_self, eq_self]; done) | omega | (simp only [List.length_cons, List.length_nil]; omega)) only [go_sem, ↓reduceIte, Nat.reduceEqDiff, Nat.reduceAdd, Nat.reduceMul, Nat.reduceSub, Int.reduceToNat, Nat.reduceBEq, List.size_toArray, List.length_cons, List.length_nil, Bool.false_and, Bool.true_and, Bool.or_false, Bool.false_or, Bool.and_false, Bool.and_true, s0, s1, hy]
    rw [LoopK_normal]
    exact ⟨(x.tmod y).natAbs, hlt, y, x.tmod y, rfl, hy0, hy1, by simp only [big] at *; omega, by simp only [big] at *; omega, (gcdI_step x y).trans hgg, by simp (disch := first | (simp only [go_sem, Bool.and_self, eq_self]; done) | omega | (simp only [List.length_cons, List.length_nil]; omega)) only [go_sem, ↓reduceIte, Nat.reduceEqDiff, Nat.reduceAdd, Nat.reduceMul, Nat.reduceSub, Int.reduceToNat, Nat.reduceBEq, List.size_toArray, List.length_cons, List.length_nil, Bool.false_and, Bool.true_and, Bool.or_false, Bool.false_or, Bool.and_false, Bool.and_true], by simp (disch := first | (simp only [go_sem, Bool.and_self, eq_self]; done) | omega | (simp only [List.length_cons, List.length_nil]; omega)) only [go_sem, ↓reduceIte, Nat.reduceEqDiff, Nat.reduceAdd, Nat.reduceMul, Nat.reduceSub, Int.reduceToNat, Nat.reduceBEq, List.size_toArray, List.length_cons, List.length_nil, Bool.false_and, Bool.true_and, Bool.or_false, Bool.false_or, Bool.and_false, Bool.and_true]⟩
  · rintro st h ⟨x, hx0, hx1, hx, s0⟩
    have e1 : max x (0 - x) = gcdI a b := by omega
    simp only [big] at hx0 hx1
    simp (disch := first | (simp only [go_sem, Bool.and_self, eq_self]; done) | omega | (simp only [List.length_cons, List.length_nil]; omega)) only [go_sem, ↓reduceIte, Nat.reduceEqDiff, Nat.reduceAdd, Nat.reduceMul, Nat.reduceSub, Int.reduceToNat, Nat.reduceBEq, List.size_toArray, List.length_cons, List.length_nil, Bool.false_and, Bool.true_and, Bool.or_false, Bool.false_or, Bool.and_false, Bool.and_true, s0, e1]
theorem k79 (a b : Int) (ha : -big ≤ a ∧ a ≤ big) (hb : -big ≤ b ∧ b ≤ big) : ConW Try.prog cfg 79 h (some ([I a, I b], h')) K = K (I (gcdI a b)) h := ConW_num (f79_con a b ha hb) rfl

/-- A fraction without a common divisor; its denominator is positive. -/
def rdP (a b : Int) : Int × Int := if b < 0 then (-a / gcdI a b, -b / gcdI a b) else (a / gcdI a b, b / gcdI a b)
abbrev FR (q : Int × Int) : AV := .agg [I q.1, I q.2]
theorem gcdI_neg (a b : Int) : gcdI (-a) (-b) = gcdI a b := by simp [gcdI]
theorem div_abs {a g : Int} (hg : 0 < g) : (a / g).natAbs ≤ a.natAbs ∨ True := .inr trivial
theorem tdiv_gcd_l (a b : Int) : a.tdiv (gcdI a b) = a / gcdI a b := Int.tdiv_eq_ediv_of_dvd (Int.gcd_dvd_left a b)
theorem tdiv_gcd_r (a b : Int) : b.tdiv (gcdI a b) = b / gcdI a b := Int.tdiv_eq_ediv_of_dvd (Int.gcd_dvd_right a b)
theorem div_rng {a g : Int} (hg : 0 < g) (hd : g ∣ a) : -(a.natAbs : Int) ≤ a / g ∧ a / g ≤ a.natAbs := by
  obtain ⟨k, rfl⟩ := hd
  rw [Int.mul_ediv_cancel_left k (by omega)]
  have h1 : (g * k).natAbs = g.natAbs * k.natAbs := Int.natAbs_mul g k
  have h2 : k.natAbs ≤ g.natAbs * k.natAbs := Nat.le_mul_of_pos_left _ (by omega)
  rw [h1]; omega
theorem f70_con (a b : Int) (ha : -big ≤ a ∧ a ≤ big) (hb : -big ≤ b ∧ b ≤ big) (hb0 : b ≠ 0) : Con Try.prog cfg 70 [I a, I b] (FR (rdP a b)) := by
  have hg := gcdI_pos (a := a) hb0
  have dl : gcdI a b ∣ a := Int.gcd_dvd_left a b
  have dr : gcdI a b ∣ b := Int.gcd_dvd_right a b
  have g0 : ¬ gcdI a b = 0 := by omega
  have r1 := div_rng hg dl
  have r2 := div_rng hg dr
  simp only [big] at ha hb
  by_cases hn : b < 0
  · have hr : rdP a b = (-a / gcdI a b, -b / gcdI a b) := by simp [rdP, hn]
    have kg := fun h h' K => k79 (h := h) (h' := h') (K := K) (0 - a) (0 - b) (by simp only [big]; omega) (by simp only [big]; omega)
    have e0 : gcdI (0 - a) (0 - b) = gcdI a b := by rw [Int.zero_sub, Int.zero_sub, gcdI_neg]
    rw [e0] at kg
    have t1 : (0 - a).tdiv (gcdI a b) = -a / gcdI a b := by rw [Int.zero_sub, Int.tdiv_eq_ediv_of_dvd ((Int.dvd_neg).2 dl)]
    have t2 : (0 - b).tdiv (gcdI a b) = -b / gcdI a b := by rw [Int.zero_sub, Int.tdiv_eq_ediv_of_dvd ((Int.dvd_neg).2 dr)]
    have q1 := div_rng hg ((Int.dvd_neg).2 dl)
    have q2 := div_rng hg ((Int.dvd_neg).2 dr)
    rw [hr]
    refine Con_intro Try.func70 rfl ok70 (Nat.le_of_ble_eq_true rfl) rfl ?_
    simp only [Try.f70, Option.getD_some, initSt2]
    simp (disch := first | (simp only [go_sem, Bool.and_self, eq_self]; done) | omega | (simp only [List.length_cons, List.length_nil]; omega)) only [go_sem, ↓reduceIte, Nat.reduceEqDiff, Nat.reduceAdd, Nat.reduceMul, Nat.reduceSub, Int.reduceToNat, Nat.reduceBEq, List.size_toArray, List.length_cons, List.length_nil, Bool.false_and, Bool.true_and, Bool.or_false, Bool.false_or, Bool.and_false, Bool.and_true, hn, kg, t1, t2, g0]
    rfl
  · have hr : rdP a b = (a / gcdI a b, b / gcdI a b) := by simp [rdP, hn]
    have kg := fun h h' K => k79 (h := h) (h' := h') (K := K) a b (by simp only [big]; omega) (by simp only [big]; omega)
    have t1 := tdiv_gcd_l a b
    have t2 := tdiv_gcd_r a b
    rw [hr]
    refine Con_intro Try.func70 rfl ok70 (Nat.le_of_ble_eq_true rfl) rfl ?_
    simp only [Try.f70, Option.getD_some, initSt2]
    simp (disch := first | (simp only [go_sem, Bool.and_self, eq_self]; done) | omega | (simp only [List.length_cons, List.length_nil]; omega)) only [go_sem, ↓reduceIte, Nat.reduceEqDiff, Nat.reduceAdd, Nat.reduceMul, Nat.reduceSub, Int.reduceToNat, Nat.reduceBEq, List.size_toArray, List.length_cons, List.length_nil, Bool.false_and, Bool.true_and, Bool.or_false, Bool.false_or, Bool.and_false, Bool.and_true, hn, kg, t1, t2, g0]
    rfl
theorem k70 (a b : Int) (ha : -big ≤ a ∧ a ≤ big) (hb : -big ≤ b ∧ b ≤ big) (hb0 : b ≠ 0) : ConW Try.prog cfg 70 h (some ([I a, I b], h')) K = K (FR (rdP a b)) h := ConW_num (f70_con a b ha hb hb0) rfl

/-! ### The reference's -/
theorem f71_con (a b : Int) (ha : 0 ≤ a ∧ a ≤ big) (hb : 0 ≤ b ∧ b ≤ big) : Con Try.prog cfg 71 [I a, I b] (I (gcdI a b)) := by
  refine Con_intro Try.func71 rfl ok71 (Nat.le_of_ble_eq_true rfl) rfl ?_
  simp only [Try.f71, Option.getD_some, initSt2]
  simp (disch := first | (simp only [go_sem, Bool.and_self, eq_self]; done) | omega | (simp only [List.length_cons, List.length_nil]; omega)) only [go_sem, ↓reduceIte, Nat.reduceEqDiff, Nat.reduceAdd, Nat.reduceMul, Nat.reduceSub, Int.reduceToNat, Nat.reduceBEq, List.size_toArray, List.length_cons, List.length_nil, Bool.false_and, Bool.true_and, Bool.or_false, Bool.false_or, Bool.and_false, Bool.and_true]
  refine WP_loopK (fun m st h => ∃ x y : Int, m = y.toNat ∧ 0 ≤ x ∧ x ≤ big ∧ 0 ≤ y ∧ y ≤ big ∧ gcdI x y = gcdI a b ∧ st 0 = I x ∧ st 1 = I y) b.toNat
    ⟨a, b, rfl, ha.1, ha.2, hb.1, hb.2, rfl, by simp (disch := first | (simp only [go_sem, Bool.and_self, eq_self]; done) | omega | (simp only [List.length_cons, List.length_nil]; omega)) only [go_sem, ↓reduceIte, Nat.reduceEqDiff, Nat.reduceAdd, Nat.reduceMul, Nat.reduceSub, Int.reduceToNat, Nat.reduceBEq, List.size_toArray, List.length_cons, List.length_nil, Bool.false_and, Bool.true_and, Bool.or_false, Bool.false_or, Bool.and_false, Bool.and_true], by simp (disch := first | (simp only [go_sem, Bool.and_self, eq_self]; done) | omega | (simp only [List.length_cons, List.length_nil]; omega)) only [go_sem, ↓reduceIte, Nat.reduceEqDiff, Nat.reduceAdd, Nat.reduceMul, Nat.reduceSub, Int.reduceToNat, Nat.reduceBEq, List.size_toArray, List.length_cons, List.length_nil, Bool.false_and, Bool.true_and, Bool.or_false, Bool.false_or, Bool.and_false, Bool.and_true]⟩ ?_
  rintro n st h ⟨x, y, rfl, hx0, hx1, hy0, hy1, hgg, s0, s1⟩
  by_cases hy : 0 < y
  case neg =>
    obtain rfl : y = 0 := by omega
    rw [gcdI_zero] at hgg
    have : (x.natAbs : Int) = x := by omega
    rw [this] at hgg
    subst hgg
    have h00 : ¬ (0 : Int) < 0 := by decide
    simp (disch := first | (simp only [go_sem, Bool.and_self, eq_self]; done) | omega | (simp only [List.length_cons, List.length_nil]; omega)) only [go_sem, ↓reduceIte, Nat.reduceEqDiff, Nat.reduceAdd, Nat.reduceMul, Nat.reduceSub, Int.reduceToNat, Nat.reduceBEq, List.size_toArray, List.length_cons, List.length_nil, Bool.false_and, Bool.true_and, Bool.or_false, Bool.false_or, Bool.and_false, Bool.and_true, s0, s1, h00]
  have hy' : ¬ y = 0 := by omega
  have hm0 : 0 ≤ x.tmod y := Int.tmod_nonneg y hx0
  have hm1 : x.tmod y < y := Int.tmod_lt_of_pos x (by omega)
  simp only [big] at hx1 hy1
  simp (disch := first | (simp only [go_sem, Bool.and_self, eq_self]; done) | omega | (simp only [List.length_cons, List.length_nil]; omega)) only [go_sem, ↓reduceIte, Nat.reduceEqDiff, Nat.reduceAdd, Nat.reduceMul, Nat.reduceSub, Int.reduceToNat, Nat.reduceBEq, List.size_toArray, List.length_cons, List.length_nil, Bool.false_and, Bool.true_and, Bool.or_false, Bool.false_or, Bool.and_false, Bool.and_true, s0, s1, hy, hy']
  rw [LoopK_normal]
  exact ⟨(x.tmod y).toNat, by omega, y, x.tmod y, rfl, by omega, by simp only [big]; omega, hm0, by simp only [big]; omega, (gcdI_step x y).trans hgg, by simp (disch := first | (simp only [go_sem, Bool.and_self, eq_self]; done) | omega | (simp only [List.length_cons, List.length_nil]; omega)) only [go_sem, ↓reduceIte, Nat.reduceEqDiff, Nat.reduceAdd, Nat.reduceMul, Nat.reduceSub, Int.reduceToNat, Nat.reduceBEq, List.size_toArray, List.length_cons, List.length_nil, Bool.false_and, Bool.true_and, Bool.or_false, Bool.false_or, Bool.and_false, Bool.and_true], by simp (disch := first | (simp only [go_sem, Bool.and_self, eq_self]; done) | omega | (simp only [List.length_cons, List.length_nil]; omega)) only [go_sem, ↓reduceIte, Nat.reduceEqDiff, Nat.reduceAdd, Nat.reduceMul, Nat.reduceSub, Int.reduceToNat, Nat.reduceBEq, List.size_toArray, List.length_cons, List.length_nil, Bool.false_and, Bool.true_and, Bool.or_false, Bool.false_or, Bool.and_false, Bool.and_true]⟩
theorem k71 (a b : Int) (ha : 0 ≤ a ∧ a ≤ big) (hb : 0 ≤ b ∧ b ≤ big) : ConW Try.prog cfg 71 h (some ([I a, I b], h')) K = K (I (gcdI a b)) h := ConW_num (f71_con a b ha hb) rfl
theorem gcdI_abs (a b : Int) (m : Int) (hm : (a.natAbs : Int) = m) : gcdI m b = gcdI a b := by
  subst hm; rfl
theorem f53_con (a b : Int) (ha : -big ≤ a ∧ a ≤ big) (hb : -big ≤ b ∧ b ≤ big) (hb0 : b ≠ 0) : Con Try.prog cfg 53 [I a, I b] (FR (rdP a b)) := by
  have hg := gcdI_pos (a := a) hb0
  have dl : gcdI a b ∣ a := Int.gcd_dvd_left a b
  have dr : gcdI a b ∣ b := Int.gcd_dvd_right a b
  have g0 : ¬ gcdI a b = 0 := by omega
  have r1 := div_rng hg dl
  have r2 := div_rng hg dr
  simp only [big] at ha hb
  by_cases hn : b < 0
  · have hr : rdP a b = (-a / gcdI a b, -b / gcdI a b) := by simp [rdP, hn]
    have hmx : max (0 - a) (0 - (0 - a)) = ((0 - a).natAbs : Int) := by omega
    have kg := fun h h' K => k71 (h := h) (h' := h') (K := K) (max (0 - a) (0 - (0 - a))) (0 - b) (by simp only [big]; omega) (by simp only [big]; omega)
    have e0 : gcdI (max (0 - a) (0 - (0 - a))) (0 - b) = gcdI a b := by rw [gcdI_abs (0 - a) (0 - b) _ hmx.symm, Int.zero_sub, Int.zero_sub, gcdI_neg]
    rw [e0] at kg
    have t1 : (0 - a).tdiv (gcdI a b) = -a / gcdI a b := by rw [Int.zero_sub, Int.tdiv_eq_ediv_of_dvd ((Int.dvd_neg).2 dl)]
    have t2 : (0 - b).tdiv (gcdI a b) = -b / gcdI a b := by rw [Int.zero_sub, Int.tdiv_eq_ediv_of_dvd ((Int.dvd_neg).2 dr)]
    have q1 := div_rng hg ((Int.dvd_neg).2 dl)
    have q2 := div_rng hg ((Int.dvd_neg).2 dr)
    rw [hr]
    refine Con_intro Try.func53 rfl ok53 (Nat.le_of_ble_eq_true rfl) rfl ?_
    simp only [Try.f53, Option.getD_some, initSt2]
    simp (disch := first | (simp only [go_sem, Bool.and_self, eq_self]; done) | omega | (simp only [List.length_cons, List.length_nil]; omega)) only [go_sem, ↓reduceIte, Nat.reduceEqDiff, Nat.reduceAdd, Nat.reduceMul, Nat.reduceSub, Int.reduceToNat, Nat.reduceBEq, List.size_toArray, List.length_cons, List.length_nil, Bool.false_and, Bool.true_and, Bool.or_false, Bool.false_or, Bool.and_false, Bool.and_true, hn, kg, t1, t2, g0]
    rfl
  · have hr : rdP a b = (a / gcdI a b, b / gcdI a b) := by simp [rdP, hn]
    have hmx : max a (0 - a) = (a.natAbs : Int) := by omega
    have kg := fun h h' K => k71 (h := h) (h' := h') (K := K) (max a (0 - a)) b (by simp only [big]; omega) (by simp only [big]; omega)
    rw [gcdI_abs a b _ hmx.symm] at kg
    have t1 := tdiv_gcd_l a b
    have t2 := tdiv_gcd_r a b
    rw [hr]
    refine Con_intro Try.func53 rfl ok53 (Nat.le_of_ble_eq_true rfl) rfl ?_
    simp only [Try.f53, Option.getD_some, initSt2]
    simp (disch := first | (simp only [go_sem, Bool.and_self, eq_self]; done) | omega | (simp only [List.length_cons, List.length_nil]; omega)) only [go_sem, ↓reduceIte, Nat.reduceEqDiff, Nat.reduceAdd, Nat.reduceMul, Nat.reduceSub, Int.reduceToNat, Nat.reduceBEq, List.size_toArray, List.length_cons, List.length_nil, Bool.false_and, Bool.true_and, Bool.or_false, Bool.false_or, Bool.and_false, Bool.and_true, hn, kg, t1, t2, g0]
    rfl
theorem k53 (a b : Int) (ha : -big ≤ a ∧ a ≤ big) (hb : -big ≤ b ∧ b ≤ big) (hb0 : b ≠ 0) : ConW Try.prog cfg 53 h (some ([I a, I b], h')) K = K (FR (rdP a b)) h := ConW_num (f53_con a b ha hb hb0) rfl
end Go.Proofs.Ytgamcclfdkpcgaa

set_option linter.unusedVariables false
set_option linter.unusedSimpArgs false
set_option maxRecDepth 10000
namespace Go.Proofs.Ytgamcclfdkpcgaa
open Go Go.Am Go.RowKit

variable {h h' : Hp} {K : AV → Hp → Prop}

/-- 1/k + 1/(k+1) + ..: m terms. -/
def pS (k : Nat) : Nat → Int × Int
  | 0 => (0, 1)
  | m + 1 => rdP ((pS k m).1 * ((k + m : Nat) : Int) + (pS k m).2) ((pS k m).2 * ((k + m : Nat) : Int))
def chP (n k : Nat) : Int × Int := if k = 0 then rdP 1 n else rdP ((pS k (n - k)).1 * k) ((pS k (n - k)).2 * n)
def okS (q : Int × Int) : Bool := decide (0 ≤ q.1) && (decide (q.1 ≤ 1099511627776) && (decide (1 ≤ q.2) && decide (q.2 ≤ 1099511627776)))
theorem pS_all : ((List.range 19).all fun k => (List.range (20 - k)).all fun m => okS (pS (k + 1) m)) = true := by kernel_rfl
theorem pS_ok {k m : Nat} (h0 : 0 < k) (hm : k + m ≤ 20) (hk : k < 20) : (0 ≤ (pS k m).1 ∧ (pS k m).1 ≤ 1099511627776) ∧ (1 ≤ (pS k m).2 ∧ (pS k m).2 ≤ 1099511627776) := by
  have a := List.all_eq_true.1 pS_all (k - 1) (by simp; omega)
  have b := List.all_eq_true.1 a m (by simp; omega)
  rw [show k - 1 + 1 = k by omega] at b
  simp only [okS, Bool.and_eq_true, decide_eq_true_eq] at b
  exact ⟨⟨b.1, b.2.1⟩, b.2.2⟩
theorem f51_con {n k : Nat} (h1 : 1 ≤ n) (h2 : n ≤ 20) (h3 : k < n) : Con Try.prog cfg 51 [I n, I k] (FR (chP n k)) := by
  by_cases hk : k = 0
  · subst hk
    have kr := fun h h' K => k70 (h := h) (h' := h') (K := K) 1 n (by simp only [big]; omega) (by simp only [big]; omega) (by omega)
    have hr : chP n 0 = rdP 1 n := rfl
    have z0 : decide (((0 : Nat) : Int) = 0) = true := rfl
    rw [hr]
    generalize rdP 1 n = q at *
    refine Con_intro Try.func51 rfl ok51 (Nat.le_of_ble_eq_true rfl) rfl ?_
    simp only [Try.f51, Option.getD_some, initSt2]
    simp (disch := first | (simp only [go_sem, Bool.and_self, eq_self]; done) | omega | (simp only [List.length_cons, List.length_nil]; omega)) only [go_sem, ↓reduceIte, Nat.reduceEqDiff, Nat.reduceAdd, Nat.reduceMul, Nat.reduceSub, Int.reduceToNat, Nat.reduceBEq, List.size_toArray, List.length_cons, List.length_nil, Bool.false_and, Bool.true_and, Bool.or_false, Bool.false_or, Bool.and_false, Bool.and_true, kr, z0]
    rfl
  have hk0 : ¬ (k : Int) = 0 := by omega
  have hr : chP n k = rdP ((pS k (n - k)).1 * k) ((pS k (n - k)).2 * n) := by simp [chP, hk]
  rw [hr]
  refine Con_intro Try.func51 rfl ok51 (Nat.le_of_ble_eq_true rfl) rfl ?_
  simp only [Try.f51, Option.getD_some, initSt2]
  simp (disch := first | (simp only [go_sem, Bool.and_self, eq_self]; done) | omega | (simp only [List.length_cons, List.length_nil]; omega)) only [go_sem, ↓reduceIte, Nat.reduceEqDiff, Nat.reduceAdd, Nat.reduceMul, Nat.reduceSub, Int.reduceToNat, Nat.reduceBEq, List.size_toArray, List.length_cons, List.length_nil, Bool.false_and, Bool.true_and, Bool.or_false, Bool.false_or, Bool.and_false, Bool.and_true, hk0]
  refine WP_cut (fun st h => st 0 = I n ∧ st 1 = I k ∧ st 4 = .ptr 0 0 ∧ st 5 = .ptr 1 0 ∧ h.nx = 2 ∧ h.bl 0 = some (.cells false false [I 0, I 0]) ∧ h.bl 1 = some (.cells false false [I (pS k (n - k)).1, I (pS k (n - k)).2])) ?_ ?_
  · refine WP_loopK (fun m st h => ∃ j : Nat, m = n - k - j ∧ j ≤ n - k ∧ st 0 = I n ∧ st 1 = I k ∧ st 4 = .ptr 0 0 ∧ st 5 = .ptr 1 0 ∧ st 6 = I ((k + j : Nat) : Int) ∧ h.nx = 2 ∧ h.bl 0 = some (.cells false false [I 0, I 0]) ∧ h.bl 1 = some (.cells false false [I (pS k j).1, I (pS k j).2])) (n - k)
      ⟨0, rfl, Nat.zero_le _, by simp (disch := first | (simp only [go_sem, Bool.and_self, eq_self]; done) | omega | (simp only [List.length_cons, List.length_nil]; omega)) only [go_sem, ↓reduceIte, Nat.reduceEqDiff, Nat.reduceAdd, Nat.reduceMul, Nat.reduceSub, Int.reduceToNat, Nat.reduceBEq, List.size_toArray, List.length_cons, List.length_nil, Bool.false_and, Bool.true_and, Bool.or_false, Bool.false_or, Bool.and_false, Bool.and_true], by simp (disch := first | (simp only [go_sem, Bool.and_self, eq_self]; done) | omega | (simp only [List.length_cons, List.length_nil]; omega)) only [go_sem, ↓reduceIte, Nat.reduceEqDiff, Nat.reduceAdd, Nat.reduceMul, Nat.reduceSub, Int.reduceToNat, Nat.reduceBEq, List.size_toArray, List.length_cons, List.length_nil, Bool.false_and, Bool.true_and, Bool.or_false, Bool.false_or, Bool.and_false, Bool.and_true], by simp (disch := first | (simp only [go_sem, Bool.and_self, eq_self]; done) | omega | (simp only [List.length_cons, List.length_nil]; omega)) only [go_sem, ↓reduceIte, Nat.reduceEqDiff, Nat.reduceAdd, Nat.reduceMul, Nat.reduceSub, Int.reduceToNat, Nat.reduceBEq, List.size_toArray, List.length_cons, List.length_nil, Bool.false_and, Bool.true_and, Bool.or_false, Bool.false_or, Bool.and_false, Bool.and_true], by simp (disch := first | (simp only [go_sem, Bool.and_self, eq_self]; done) | omega | (simp only [List.length_cons, List.length_nil]; omega)) only [go_sem, ↓reduceIte, Nat.reduceEqDiff, Nat.reduceAdd, Nat.reduceMul, Nat.reduceSub, Int.reduceToNat, Nat.reduceBEq, List.size_toArray, List.length_cons, List.length_nil, Bool.false_and, Bool.true_and, Bool.or_false, Bool.false_or, Bool.and_false, Bool.and_true], by simp (disch := first | (simp only [go_sem, Bool.and_self, eq_self]; done) | omega | (simp only [List.length_cons, List.length_nil]; omega)) only [go_sem, ↓reduceIte, Nat.reduceEqDiff, Nat.reduceAdd, Nat.reduceMul, Nat.reduceSub, Int.reduceToNat, Nat.reduceBEq, List.size_toArray, List.length_cons, List.length_nil, Bool.false_and, Bool.true_and, Bool.or_false, Bool.false_or, Bool.and_false, Bool.and_true]; rfl, by simp (disch := first | (simp only [go_sem, Bool.and_self, eq_self]; done) | omega | (simp only [List.length_cons, List.length_nil]; omega)) only [go_sem, ↓reduceIte, Nat.reduceEqDiff, Nat.reduceAdd, Nat.reduceMul, Nat.reduceSub, Int.reduceToNat, Nat.reduceBEq, List.size_toArray, List.length_cons, List.length_nil, Bool.false_and, Bool.true_and, Bool.or_false, Bool.false_or, Bool.and_false, Bool.and_true], by simp (disch := first | (simp only [go_sem, Bool.and_self, eq_self]; done) | omega | (simp only [List.length_cons, List.length_nil]; omega)) only [go_sem, ↓reduceIte, Nat.reduceEqDiff, Nat.reduceAdd, Nat.reduceMul, Nat.reduceSub, Int.reduceToNat, Nat.reduceBEq, List.size_toArray, List.length_cons, List.length_nil, Bool.false_and, Bool.true_and, Bool.or_false, Bool.false_or, Bool.and_false, Bool.and_true], by simp (disch := first | (simp only [go_sem, Bool.and_self, eq_self]; done) | omega | (simp only [List.length_cons, List.length_nil]; omega)) only [go_sem, ↓reduceIte, Nat.reduceEqDiff, Nat.reduceAdd, Nat.reduceMul, Nat.reduceSub, Int.reduceToNat, Nat.reduceBEq, List.size_toArray, List.length_cons, List.length_nil, Bool.false_and, Bool.true_and, Bool.or_false, Bool.false_or, Bool.and_false, Bool.and_true]; rfl⟩ ?_
    rintro m st h ⟨j, rfl, hj, s0, s1, s4, s5, s6, hnx, b0, b1⟩
    by_cases hlt : k + j < n
    case neg =>
      have hlt' : ¬ ((k + j : Nat) : Int) < n := by omega
      have hjj : j = n - k := by omega
      subst hjj
      simp (disch := first | (simp only [go_sem, Bool.and_self, eq_self]; done) | omega | (simp only [List.length_cons, List.length_nil]; omega)) only [go_sem, ↓reduceIte, Nat.reduceEqDiff, Nat.reduceAdd, Nat.reduceMul, Nat.reduceSub, Int.reduceToNat, Nat.reduceBEq, List.size_toArray, List.length_cons, List.length_nil, Bool.false_and, Bool.true_and, Bool.or_false, Bool.false_or, Bool.and_false, Bool.and_true, s0, s1, s4, s5, s6, hlt', b0, b1]
      exact hnx
    have hlt' : ((k + j : Nat) : Int) < n := by omega
    obtain ⟨p1, p2⟩ := pS_ok (k := k) (m := j) (by omega) (by omega) (by omega)
    obtain ⟨p3, p4⟩ := pS_ok (k := k) (m := j + 1) (by omega) (by omega) (by omega)
    have hstep : pS k (j + 1) = rdP ((pS k j).1 * ((k + j : Nat) : Int) + (pS k j).2) ((pS k j).2 * ((k + j : Nat) : Int)) := rfl
    rw [hstep] at p3 p4
    generalize (pS k j).1 = a at *
    generalize (pS k j).2 = b at *
    obtain ⟨i, hi⟩ : ∃ i : Nat, i = k + j := ⟨_, rfl⟩
    have hib : 1 ≤ i ∧ i ≤ 19 := by omega
    rw [← hi] at s6 hlt' hstep p3 p4
    have m1 : 0 ≤ a * i ∧ a * i ≤ 1099511627776 * 20 := ⟨Int.mul_nonneg p1.1 (by omega), Int.mul_le_mul p1.2 (by omega) (by omega) (by omega)⟩
    have m2 : 0 < b * i ∧ b * i ≤ 1099511627776 * 20 := ⟨Int.mul_pos (by omega) (by omega), Int.mul_le_mul p2.2 (by omega) (by omega) (by omega)⟩
    have kr := fun h h' K => k70 (h := h) (h' := h') (K := K) (a * i + b) (b * i) (by simp only [big]; omega) (by simp only [big]; omega) (by omega)
    generalize rdP (a * i + b) (b * i) = q at *
    simp (disch := first | (simp only [go_sem, Bool.and_self, eq_self]; done) | omega | (simp only [List.length_cons, List.length_nil]; omega)) only [go_sem, ↓reduceIte, Nat.reduceEqDiff, Nat.reduceAdd, Nat.reduceMul, Nat.reduceSub, Int.reduceToNat, Nat.reduceBEq, List.size_toArray, List.length_cons, List.length_nil, Bool.false_and, Bool.true_and, Bool.or_false, Bool.false_or, Bool.and_false, Bool.and_true, s0, s1, s4, s5, s6, hlt', b0, b1, hnx, kr]
    rw [LoopK_normal]
    exact ⟨n - k - (j + 1), by omega, j + 1, rfl, by omega, by simp (disch := first | (simp only [go_sem, Bool.and_self, eq_self]; done) | omega | (simp only [List.length_cons, List.length_nil]; omega)) only [go_sem, ↓reduceIte, Nat.reduceEqDiff, Nat.reduceAdd, Nat.reduceMul, Nat.reduceSub, Int.reduceToNat, Nat.reduceBEq, List.size_toArray, List.length_cons, List.length_nil, Bool.false_and, Bool.true_and, Bool.or_false, Bool.false_or, Bool.and_false, Bool.and_true, s0], by simp (disch := first | (simp only [go_sem, Bool.and_self, eq_self]; done) | omega | (simp only [List.length_cons, List.length_nil]; omega)) only [go_sem, ↓reduceIte, Nat.reduceEqDiff, Nat.reduceAdd, Nat.reduceMul, Nat.reduceSub, Int.reduceToNat, Nat.reduceBEq, List.size_toArray, List.length_cons, List.length_nil, Bool.false_and, Bool.true_and, Bool.or_false, Bool.false_or, Bool.and_false, Bool.and_true, s1], by simp (disch := first | (simp only [go_sem, Bool.and_self, eq_self]; done) | omega | (simp only [List.length_cons, List.length_nil]; omega)) only [go_sem, ↓reduceIte, Nat.reduceEqDiff, Nat.reduceAdd, Nat.reduceMul, Nat.reduceSub, Int.reduceToNat, Nat.reduceBEq, List.size_toArray, List.length_cons, List.length_nil, Bool.false_and, Bool.true_and, Bool.or_false, Bool.false_or, Bool.and_false, Bool.and_true, s4], by simp (disch := first | (simp only [go_sem, Bool.and_self, eq_self]; done) | omega | (simp only [List.length_cons, List.length_nil]; omega)) only [go_sem, ↓reduceIte, Nat.reduceEqDiff, Nat.reduceAdd, Nat.reduceMul, Nat.reduceSub, Int.reduceToNat, Nat.reduceBEq, List.size_toArray, List.length_cons, List.length_nil, Bool.false_and, Bool.true_and, Bool.or_false, Bool.false_or, Bool.and_false, Bool.and_true, s5], (by simp (disch := first | (simp only [go_sem, Bool.and_self, eq_self]; done) | omega | (simp only [List.length_cons, List.length_nil]; omega)) only [go_sem, ↓reduceIte, Nat.reduceEqDiff, Nat.reduceAdd, Nat.reduceMul, Nat.reduceSub, Int.reduceToNat, Nat.reduceBEq, List.size_toArray, List.length_cons, List.length_nil, Bool.false_and, Bool.true_and, Bool.or_false, Bool.false_or, Bool.and_false, Bool.and_true]; congr 1; omega), by simp (disch := first | (simp only [go_sem, Bool.and_self, eq_self]; done) | omega | (simp only [List.length_cons, List.length_nil]; omega)) only [go_sem, ↓reduceIte, Nat.reduceEqDiff, Nat.reduceAdd, Nat.reduceMul, Nat.reduceSub, Int.reduceToNat, Nat.reduceBEq, List.size_toArray, List.length_cons, List.length_nil, Bool.false_and, Bool.true_and, Bool.or_false, Bool.false_or, Bool.and_false, Bool.and_true, hnx], by simp (disch := first | (simp only [go_sem, Bool.and_self, eq_self]; done) | omega | (simp only [List.length_cons, List.length_nil]; omega)) only [go_sem, ↓reduceIte, Nat.reduceEqDiff, Nat.reduceAdd, Nat.reduceMul, Nat.reduceSub, Int.reduceToNat, Nat.reduceBEq, List.size_toArray, List.length_cons, List.length_nil, Bool.false_and, Bool.true_and, Bool.or_false, Bool.false_or, Bool.and_false, Bool.and_true, b0], by rw [hstep]; simp (disch := first | (simp only [go_sem, Bool.and_self, eq_self]; done) | omega | (simp only [List.length_cons, List.length_nil]; omega)) only [go_sem, ↓reduceIte, Nat.reduceEqDiff, Nat.reduceAdd, Nat.reduceMul, Nat.reduceSub, Int.reduceToNat, Nat.reduceBEq, List.size_toArray, List.length_cons, List.length_nil, Bool.false_and, Bool.true_and, Bool.or_false, Bool.false_or, Bool.and_false, Bool.and_true]⟩
  · rintro st h ⟨s0, s1, s4, s5, hnx, b0, b1⟩
    obtain ⟨p1, p2⟩ := pS_ok (k := k) (m := n - k) (by omega) (by omega) (by omega)
    generalize (pS k (n - k)).1 = a at *
    generalize (pS k (n - k)).2 = b at *
    have m1 : 0 ≤ a * k ∧ a * k ≤ 1099511627776 * 20 := ⟨Int.mul_nonneg p1.1 (by omega), Int.mul_le_mul p1.2 (by omega) (by omega) (by omega)⟩
    have m2 : 0 < b * n ∧ b * n ≤ 1099511627776 * 20 := ⟨Int.mul_pos (by omega) (by omega), Int.mul_le_mul p2.2 (by omega) (by omega) (by omega)⟩
    have kr := fun h h' K => k70 (h := h) (h' := h') (K := K) (a * k) (b * n) (by simp only [big]; omega) (by simp only [big]; omega) (by omega)
    generalize rdP (a * k) (b * n) = q at *
    simp (disch := first | (simp only [go_sem, Bool.and_self, eq_self]; done) | omega | (simp only [List.length_cons, List.length_nil]; omega)) only [go_sem, ↓reduceIte, Nat.reduceEqDiff, Nat.reduceAdd, Nat.reduceMul, Nat.reduceSub, Int.reduceToNat, Nat.reduceBEq, List.size_toArray, List.length_cons, List.length_nil, Bool.false_and, Bool.true_and, Bool.or_false, Bool.false_or, Bool.and_false, Bool.and_true, s0, s1, s4, s5, b0, b1, hnx, kr]
    rfl
theorem k51 {n k : Nat} (h1 : 1 ≤ n) (h2 : n ≤ 20) (h3 : k < n) : ConW Try.prog cfg 51 h (some ([I n, I k], h')) K = K (FR (chP n k)) h := ConW_num (f51_con h1 h2 h3) rfl

/-! ### The reference's -/
def rS (k : Nat) : Nat → Int
  | 0 => 0
  | m + 1 => rS k m + 232792560 / ((k + m : Nat) : Int)
def rcP (n k : Nat) : Int × Int := if k = 0 then (1, (n : Int)) else rdP (k * rS k (n - k)) (n * 232792560)
theorem ch_all : ((List.range 20).all fun n => (List.range (n + 1)).all fun k => decide (chP (n + 1) k = rcP (n + 1) k)) = true := by kernel_rfl
theorem in_tab {P : Nat → Nat → Bool} (h : ((List.range 20).all fun i => (List.range (i + 1)).all fun k => P (i + 1) k) = true) {n k : Nat} (h1 : 1 ≤ n) (h2 : n ≤ 20) (h3 : k < n) : P n k = true := by
  have a := List.all_eq_true.1 h (n - 1) (by simp; omega)
  have b := List.all_eq_true.1 a k (by simp; omega)
  rwa [show n - 1 + 1 = n by omega] at b
theorem ch_ref {n k : Nat} (h1 : 1 ≤ n) (h2 : n ≤ 20) (h3 : k < n) : chP n k = rcP n k := of_decide_eq_true (in_tab (P := fun n k => decide (chP n k = rcP n k)) ch_all h1 h2 h3)
theorem rS_bounds (k m : Nat) (h0 : 0 < k) : 0 ≤ rS k m ∧ rS k m ≤ m * 232792560 := by
  induction m with
  | zero => simp [rS]
  | succ m ih =>
    have h1 : 0 ≤ 232792560 / ((k + m : Nat) : Int) := Int.ediv_nonneg (by decide) (by omega)
    have h2 : 232792560 / ((k + m : Nat) : Int) ≤ 232792560 := Int.ediv_le_self _ (by decide)
    rw [rS]
    generalize (232792560 : Int) / ((k + m : Nat) : Int) = d at *
    omega
theorem f26_con {n k : Nat} (h1 : 1 ≤ n) (h2 : n ≤ 20) (h3 : k < n) : Con Try.prog cfg 26 [I n, I k] (FR (chP n k)) := by
  rw [ch_ref h1 h2 h3]
  by_cases hk : k = 0
  · subst hk
    have hr : rcP n 0 = (1, (n : Int)) := rfl
    have z0 : decide (((0 : Nat) : Int) = 0) = true := rfl
    rw [hr]
    refine Con_intro Try.func26 rfl ok26 (Nat.le_of_ble_eq_true rfl) rfl ?_
    simp only [Try.f26, Option.getD_some, initSt2]
    simp (disch := first | (simp only [go_sem, Bool.and_self, eq_self]; done) | omega | (simp only [List.length_cons, List.length_nil]; omega)) only [go_sem, ↓reduceIte, Nat.reduceEqDiff, Nat.reduceAdd, Nat.reduceMul, Nat.reduceSub, Int.reduceToNat, Nat.reduceBEq, List.size_toArray, List.length_cons, List.length_nil, Bool.false_and, Bool.true_and, Bool.or_false, Bool.false_or, Bool.and_false, Bool.and_true, z0]
    rfl
  have hk0 : ¬ (k : Int) = 0 := by omega
  have hr : rcP n k = rdP (k * rS k (n - k)) (n * 232792560) := by simp [rcP, hk]
  rw [hr]
  refine Con_intro Try.func26 rfl ok26 (Nat.le_of_ble_eq_true rfl) rfl ?_
  simp only [Try.f26, Option.getD_some, initSt2]
  simp (disch := first | (simp only [go_sem, Bool.and_self, eq_self]; done) | omega | (simp only [List.length_cons, List.length_nil]; omega)) only [go_sem, ↓reduceIte, Nat.reduceEqDiff, Nat.reduceAdd, Nat.reduceMul, Nat.reduceSub, Int.reduceToNat, Nat.reduceBEq, List.size_toArray, List.length_cons, List.length_nil, Bool.false_and, Bool.true_and, Bool.or_false, Bool.false_or, Bool.and_false, Bool.and_true, hk0]
  refine WP_cut (fun st h => st 0 = I n ∧ st 1 = I k ∧ st 4 = .ptr 0 0 ∧ st 5 = I 232792560 ∧ h.bl 0 = some (.cells false false [I 0, I 0]) ∧ st 6 = I (rS k (n - k))) ?_ ?_
  · refine WP_loopK (fun m st h => ∃ j : Nat, m = n - k - j ∧ j ≤ n - k ∧ st 0 = I n ∧ st 1 = I k ∧ st 4 = .ptr 0 0 ∧ st 5 = I 232792560 ∧ st 7 = I ((k + j : Nat) : Int) ∧ h.bl 0 = some (.cells false false [I 0, I 0]) ∧ st 6 = I (rS k j)) (n - k)
      ⟨0, rfl, Nat.zero_le _, by simp (disch := first | (simp only [go_sem, Bool.and_self, eq_self]; done) | omega | (simp only [List.length_cons, List.length_nil]; omega)) only [go_sem, ↓reduceIte, Nat.reduceEqDiff, Nat.reduceAdd, Nat.reduceMul, Nat.reduceSub, Int.reduceToNat, Nat.reduceBEq, List.size_toArray, List.length_cons, List.length_nil, Bool.false_and, Bool.true_and, Bool.or_false, Bool.false_or, Bool.and_false, Bool.and_true], by simp (disch := first | (simp only [go_sem, Bool.and_self, eq_self]; done) | omega | (simp only [List.length_cons, List.length_nil]; omega)) only [go_sem, ↓reduceIte, Nat.reduceEqDiff, Nat.reduceAdd, Nat.reduceMul, Nat.reduceSub, Int.reduceToNat, Nat.reduceBEq, List.size_toArray, List.length_cons, List.length_nil, Bool.false_and, Bool.true_and, Bool.or_false, Bool.false_or, Bool.and_false, Bool.and_true], by simp (disch := first | (simp only [go_sem, Bool.and_self, eq_self]; done) | omega | (simp only [List.length_cons, List.length_nil]; omega)) only [go_sem, ↓reduceIte, Nat.reduceEqDiff, Nat.reduceAdd, Nat.reduceMul, Nat.reduceSub, Int.reduceToNat, Nat.reduceBEq, List.size_toArray, List.length_cons, List.length_nil, Bool.false_and, Bool.true_and, Bool.or_false, Bool.false_or, Bool.and_false, Bool.and_true], by simp (disch := first | (simp only [go_sem, Bool.and_self, eq_self]; done) | omega | (simp only [List.length_cons, List.length_nil]; omega)) only [go_sem, ↓reduceIte, Nat.reduceEqDiff, Nat.reduceAdd, Nat.reduceMul, Nat.reduceSub, Int.reduceToNat, Nat.reduceBEq, List.size_toArray, List.length_cons, List.length_nil, Bool.false_and, Bool.true_and, Bool.or_false, Bool.false_or, Bool.and_false, Bool.and_true], by simp (disch := first | (simp only [go_sem, Bool.and_self, eq_self]; done) | omega | (simp only [List.length_cons, List.length_nil]; omega)) only [go_sem, ↓reduceIte, Nat.reduceEqDiff, Nat.reduceAdd, Nat.reduceMul, Nat.reduceSub, Int.reduceToNat, Nat.reduceBEq, List.size_toArray, List.length_cons, List.length_nil, Bool.false_and, Bool.true_and, Bool.or_false, Bool.false_or, Bool.and_false, Bool.and_true]; rfl, by simp (disch := first | (simp only [go_sem, Bool.and_self, eq_self]; done) | omega | (simp only [List.length_cons, List.length_nil]; omega)) only [go_sem, ↓reduceIte, Nat.reduceEqDiff, Nat.reduceAdd, Nat.reduceMul, Nat.reduceSub, Int.reduceToNat, Nat.reduceBEq, List.size_toArray, List.length_cons, List.length_nil, Bool.false_and, Bool.true_and, Bool.or_false, Bool.false_or, Bool.and_false, Bool.and_true], by simp (disch := first | (simp only [go_sem, Bool.and_self, eq_self]; done) | omega | (simp only [List.length_cons, List.length_nil]; omega)) only [go_sem, ↓reduceIte, Nat.reduceEqDiff, Nat.reduceAdd, Nat.reduceMul, Nat.reduceSub, Int.reduceToNat, Nat.reduceBEq, List.size_toArray, List.length_cons, List.length_nil, Bool.false_and, Bool.true_and, Bool.or_false, Bool.false_or, Bool.and_false, Bool.and_true]; rfl⟩ ?_
    rintro m st h ⟨j, rfl, hj, s0, s1, s4, s5, s7, b0, s6⟩
    by_cases hlt : k + j < n
    case neg =>
      have hlt' : ¬ ((k + j : Nat) : Int) < n := by omega
      have hjj : j = n - k := by omega
      subst hjj
      simp (disch := first | (simp only [go_sem, Bool.and_self, eq_self]; done) | omega | (simp only [List.length_cons, List.length_nil]; omega)) only [go_sem, ↓reduceIte, Nat.reduceEqDiff, Nat.reduceAdd, Nat.reduceMul, Nat.reduceSub, Int.reduceToNat, Nat.reduceBEq, List.size_toArray, List.length_cons, List.length_nil, Bool.false_and, Bool.true_and, Bool.or_false, Bool.false_or, Bool.and_false, Bool.and_true, s0, s1, s4, s5, s6, s7, hlt', b0]
    have hlt' : ((k + j : Nat) : Int) < n := by omega
    have hb1 := rS_bounds k j (by omega)
    have hb2 := rS_bounds k (j + 1) (by omega)
    have hstep : rS k (j + 1) = rS k j + 232792560 / ((k + j : Nat) : Int) := rfl
    have hj20 : ((j + 1 : Nat) : Int) * 232792560 ≤ 21 * 232792560 := by omega
    rw [hstep] at hb2
    obtain ⟨i, hi⟩ : ∃ i : Nat, i = k + j := ⟨_, rfl⟩
    have hib : 1 ≤ i ∧ i ≤ 19 := by omega
    rw [← hi] at s7 hlt' hstep hb2
    have hi0 : ¬ (i : Int) = 0 := by omega
    have ht : (232792560 : Int).tdiv i = 232792560 / (i : Int) := Int.tdiv_eq_ediv_of_nonneg (by decide)
    have hd1 : 0 ≤ 232792560 / (i : Int) := Int.ediv_nonneg (by decide) (by omega)
    have hd2 : 232792560 / (i : Int) ≤ 232792560 := Int.ediv_le_self _ (by decide)
    generalize (232792560 : Int) / (i : Int) = d at *
    generalize rS k j = sj at *
    simp (disch := first | (simp only [go_sem, Bool.and_self, eq_self]; done) | omega | (simp only [List.length_cons, List.length_nil]; omega)) only [go_sem, ↓reduceIte, Nat.reduceEqDiff, Nat.reduceAdd, Nat.reduceMul, Nat.reduceSub, Int.reduceToNat, Nat.reduceBEq, List.size_toArray, List.length_cons, List.length_nil, Bool.false_and, Bool.true_and, Bool.or_false, Bool.false_or, Bool.and_false, Bool.and_true, s0, s1, s4, s5, s6, s7, hlt', b0, hi0, ht]
    rw [LoopK_normal]
    exact ⟨n - k - (j + 1), by omega, j + 1, rfl, by omega, by simp (disch := first | (simp only [go_sem, Bool.and_self, eq_self]; done) | omega | (simp only [List.length_cons, List.length_nil]; omega)) only [go_sem, ↓reduceIte, Nat.reduceEqDiff, Nat.reduceAdd, Nat.reduceMul, Nat.reduceSub, Int.reduceToNat, Nat.reduceBEq, List.size_toArray, List.length_cons, List.length_nil, Bool.false_and, Bool.true_and, Bool.or_false, Bool.false_or, Bool.and_false, Bool.and_true, s0], by simp (disch := first | (simp only [go_sem, Bool.and_self, eq_self]; done) | omega | (simp only [List.length_cons, List.length_nil]; omega)) only [go_sem, ↓reduceIte, Nat.reduceEqDiff, Nat.reduceAdd, Nat.reduceMul, Nat.reduceSub, Int.reduceToNat, Nat.reduceBEq, List.size_toArray, List.length_cons, List.length_nil, Bool.false_and, Bool.true_and, Bool.or_false, Bool.false_or, Bool.and_false, Bool.and_true, s1], by simp (disch := first | (simp only [go_sem, Bool.and_self, eq_self]; done) | omega | (simp only [List.length_cons, List.length_nil]; omega)) only [go_sem, ↓reduceIte, Nat.reduceEqDiff, Nat.reduceAdd, Nat.reduceMul, Nat.reduceSub, Int.reduceToNat, Nat.reduceBEq, List.size_toArray, List.length_cons, List.length_nil, Bool.false_and, Bool.true_and, Bool.or_false, Bool.false_or, Bool.and_false, Bool.and_true, s4], by simp (disch := first | (simp only [go_sem, Bool.and_self, eq_self]; done) | omega | (simp only [List.length_cons, List.length_nil]; omega)) only [go_sem, ↓reduceIte, Nat.reduceEqDiff, Nat.reduceAdd, Nat.reduceMul, Nat.reduceSub, Int.reduceToNat, Nat.reduceBEq, List.size_toArray, List.length_cons, List.length_nil, Bool.false_and, Bool.true_and, Bool.or_false, Bool.false_or, Bool.and_false, Bool.and_true, s5], (by simp (disch := first | (simp only [go_sem, Bool.and_self, eq_self]; done) | omega | (simp only [List.length_cons, List.length_nil]; omega)) only [go_sem, ↓reduceIte, Nat.reduceEqDiff, Nat.reduceAdd, Nat.reduceMul, Nat.reduceSub, Int.reduceToNat, Nat.reduceBEq, List.size_toArray, List.length_cons, List.length_nil, Bool.false_and, Bool.true_and, Bool.or_false, Bool.false_or, Bool.and_false, Bool.and_true]; congr 1; omega), by simp (disch := first | (simp only [go_sem, Bool.and_self, eq_self]; done) | omega | (simp only [List.length_cons, List.length_nil]; omega)) only [go_sem, ↓reduceIte, Nat.reduceEqDiff, Nat.reduceAdd, Nat.reduceMul, Nat.reduceSub, Int.reduceToNat, Nat.reduceBEq, List.size_toArray, List.length_cons, List.length_nil, Bool.false_and, Bool.true_and, Bool.or_false, Bool.false_or, Bool.and_false, Bool.and_true, b0], by rw [hstep]; simp (disch := first | (simp only [go_sem, Bool.and_self, eq_self]; done) | omega | (simp only [List.length_cons, List.length_nil]; omega)) only [go_sem, ↓reduceIte, Nat.reduceEqDiff, Nat.reduceAdd, Nat.reduceMul, Nat.reduceSub, Int.reduceToNat, Nat.reduceBEq, List.size_toArray, List.length_cons, List.length_nil, Bool.false_and, Bool.true_and, Bool.or_false, Bool.false_or, Bool.and_false, Bool.and_true]⟩
  · rintro st h ⟨s0, s1, s4, s5, b0, s6⟩
    have hb1 := rS_bounds k (n - k) (by omega)
    have hj20 : ((n - k : Nat) : Int) * 232792560 ≤ 20 * 232792560 := by omega
    generalize rS k (n - k) = a at *
    have m1 : 0 ≤ (k : Int) * a ∧ (k : Int) * a ≤ 20 * (20 * 232792560) := ⟨Int.mul_nonneg (by omega) hb1.1, Int.mul_le_mul (by omega) (by omega) hb1.1 (by omega)⟩
    have kr := fun h h' K => k53 (h := h) (h' := h') (K := K) (k * a) (n * 232792560) (by simp only [big]; omega) (by simp only [big]; omega) (by omega)
    generalize rdP (k * a) (n * 232792560) = q at *
    simp (disch := first | (simp only [go_sem, Bool.and_self, eq_self]; done) | omega | (simp only [List.length_cons, List.length_nil]; omega)) only [go_sem, ↓reduceIte, Nat.reduceEqDiff, Nat.reduceAdd, Nat.reduceMul, Nat.reduceSub, Int.reduceToNat, Nat.reduceBEq, List.size_toArray, List.length_cons, List.length_nil, Bool.false_and, Bool.true_and, Bool.or_false, Bool.false_or, Bool.and_false, Bool.and_true, s0, s1, s4, s5, s6, b0, kr]
    rfl
theorem k26 {n k : Nat} (h1 : 1 ≤ n) (h2 : n ≤ 20) (h3 : k < n) : ConW Try.prog cfg 26 h (some ([I n, I k], h')) K = K (FR (chP n k)) h := ConW_num (f26_con h1 h2 h3) rfl

/-! ### Comparing -/
def lessP (p q : Int × Int) : Bool := decide (p.1 * q.2 < q.1 * p.2)
theorem f20_con (p q : Int × Int) (h1 : -big ≤ p.1 * q.2 ∧ p.1 * q.2 ≤ big) (h2 : -big ≤ q.1 * p.2 ∧ q.1 * p.2 ≤ big) : Con Try.prog cfg 20 [FR p, FR q] (.bool (lessP p q)) := by
  have hal : ∀ (g : Hp) (x y : Int), allocB g (some (.agg [I x, I y])) = some (.ptr g.nx 0, g.alloc (.cells false false [I x, I y])) := fun g x y => allocB_agg _ rfl
  simp only [big] at h1 h2
  rw [lessP]
  refine Con_intro Try.func20 rfl ok20 (Nat.le_of_ble_eq_true rfl) rfl ?_
  simp only [Try.f20, Option.getD_some, initSt2]
  simp (disch := first | (simp only [go_sem, Bool.and_self, eq_self]; done) | omega | (simp only [List.length_cons, List.length_nil]; omega)) only [go_sem, ↓reduceIte, Nat.reduceEqDiff, Nat.reduceAdd, Nat.reduceMul, Nat.reduceSub, Int.reduceToNat, Nat.reduceBEq, List.size_toArray, List.length_cons, List.length_nil, Bool.false_and, Bool.true_and, Bool.or_false, Bool.false_or, Bool.and_false, Bool.and_true, hal]
def cmpP (p q : Int × Int) : Int := if p.1 * q.2 < q.1 * p.2 then -1 else if q.1 * p.2 < p.1 * q.2 then 1 else 0
theorem f52_con (p q : Int × Int) (h1 : -big ≤ p.1 * q.2 ∧ p.1 * q.2 ≤ big) (h2 : -big ≤ q.1 * p.2 ∧ q.1 * p.2 ≤ big) : Con Try.prog cfg 52 [FR p, FR q] (I (cmpP p q)) := by
  have hal : ∀ (g : Hp) (x y : Int), allocB g (some (.agg [I x, I y])) = some (.ptr g.nx 0, g.alloc (.cells false false [I x, I y])) := fun g x y => allocB_agg _ rfl
  simp only [big] at h1 h2
  by_cases c1 : p.1 * q.2 < q.1 * p.2
  · have hr : cmpP p q = -1 := by simp [cmpP, c1]
    rw [hr]
    refine Con_intro Try.func52 rfl ok52 (Nat.le_of_ble_eq_true rfl) rfl ?_
    simp only [Try.f52, Option.getD_some, initSt2]
    simp (disch := first | (simp only [go_sem, Bool.and_self, eq_self]; done) | omega | (simp only [List.length_cons, List.length_nil]; omega)) only [go_sem, ↓reduceIte, Nat.reduceEqDiff, Nat.reduceAdd, Nat.reduceMul, Nat.reduceSub, Int.reduceToNat, Nat.reduceBEq, List.size_toArray, List.length_cons, List.length_nil, Bool.false_and, Bool.true_and, Bool.or_false, Bool.false_or, Bool.and_false, Bool.and_true, hal, c1]
  by_cases c2 : q.1 * p.2 < p.1 * q.2
  · have hr : cmpP p q = 1 := by simp [cmpP, c1, c2]
    rw [hr]
    refine Con_intro Try.func52 rfl ok52 (Nat.le_of_ble_eq_true rfl) rfl ?_
    simp only [Try.f52, Option.getD_some, initSt2]
    simp (disch := first | (simp only [go_sem, Bool.and_self, eq_self]; done) | omega | (simp only [List.length_cons, List.length_nil]; omega)) only [go_sem, ↓reduceIte, Nat.reduceEqDiff, Nat.reduceAdd, Nat.reduceMul, Nat.reduceSub, Int.reduceToNat, Nat.reduceBEq, List.size_toArray, List.length_cons, List.length_nil, Bool.false_and, Bool.true_and, Bool.or_false, Bool.false_or, Bool.and_false, Bool.and_true, hal, c1, c2]
  · have hr : cmpP p q = 0 := by simp [cmpP, c1, c2]
    rw [hr]
    refine Con_intro Try.func52 rfl ok52 (Nat.le_of_ble_eq_true rfl) rfl ?_
    simp only [Try.f52, Option.getD_some, initSt2]
    simp (disch := first | (simp only [go_sem, Bool.and_self, eq_self]; done) | omega | (simp only [List.length_cons, List.length_nil]; omega)) only [go_sem, ↓reduceIte, Nat.reduceEqDiff, Nat.reduceAdd, Nat.reduceMul, Nat.reduceSub, Int.reduceToNat, Nat.reduceBEq, List.size_toArray, List.length_cons, List.length_nil, Bool.false_and, Bool.true_and, Bool.or_false, Bool.false_or, Bool.and_false, Bool.and_true, hal, c1, c2]
end Go.Proofs.Ytgamcclfdkpcgaa

set_option linter.unusedVariables false
set_option linter.unusedSimpArgs false
set_option maxRecDepth 10000
namespace Go.Proofs.Ytgamcclfdkpcgaa
open Go Go.Am Go.RowKit

variable {h h' : Hp} {K : AV → Hp → Prop}

def chB (n k : Int) : Bool := inB n 1 20 && inB k 0 (n - 1)
def chR (n k : Int) : AV := if chB n k then .tup [FR (chP n.toNat k.toNat), I 0] else .tup [FR (0, 0), I 2]
theorem f23_con (n k : Int) : Con Try.prog cfg 23 [I n, I k] (chR n k) := by
  cases h1 : inB n 1 20 with
  | false =>
    have hr : chR n k = .tup [FR (0, 0), I 2] := by simp [chR, chB, h1]
    rw [hr]
    refine Con_intro Try.func23 rfl ok23 (Nat.le_of_ble_eq_true rfl) rfl ?_
    simp only [Try.f23, Option.getD_some, initSt2]
    simp (disch := first | (simp only [go_sem, Bool.and_self, eq_self]; done) | omega | (simp only [List.length_cons, List.length_nil]; omega)) only [go_sem, ↓reduceIte, Nat.reduceEqDiff, Nat.reduceAdd, Nat.reduceMul, Nat.reduceSub, Int.reduceToNat, Nat.reduceBEq, List.size_toArray, List.length_cons, List.length_nil, Bool.false_and, Bool.true_and, Bool.or_false, Bool.false_or, Bool.and_false, Bool.and_true, h1]
  | true =>
  cases h2 : inB k 0 (n - 1) with
  | false =>
    have hr : chR n k = .tup [FR (0, 0), I 2] := by simp [chR, chB, h1, h2]
    have h1' := h1
    simp only [inB, Bool.and_eq_true, decide_eq_true_eq] at h1'
    rw [hr]
    refine Con_intro Try.func23 rfl ok23 (Nat.le_of_ble_eq_true rfl) rfl ?_
    simp only [Try.f23, Option.getD_some, initSt2]
    simp (disch := first | (simp only [go_sem, Bool.and_self, eq_self]; done) | omega | (simp only [List.length_cons, List.length_nil]; omega)) only [go_sem, ↓reduceIte, Nat.reduceEqDiff, Nat.reduceAdd, Nat.reduceMul, Nat.reduceSub, Int.reduceToNat, Nat.reduceBEq, List.size_toArray, List.length_cons, List.length_nil, Bool.false_and, Bool.true_and, Bool.or_false, Bool.false_or, Bool.and_false, Bool.and_true, h1, h2]
  | true =>
    have hr : chR n k = .tup [FR (chP n.toNat k.toNat), I 0] := by simp [chR, chB, h1, h2]
    rw [hr]
    have h1' := h1
    have h2' := h2
    simp only [inB, Bool.and_eq_true, decide_eq_true_eq] at h1' h2'
    have en : ((n.toNat : Nat) : Int) = n := by omega
    have ek : ((k.toNat : Nat) : Int) = k := by omega
    have kr := fun h h' K => k51 (h := h) (h' := h') (K := K) (n := n.toNat) (k := k.toNat) (by omega) (by omega) (by omega)
    rw [en, ek] at kr
    generalize chP n.toNat k.toNat = q at *
    refine Con_intro Try.func23 rfl ok23 (Nat.le_of_ble_eq_true rfl) rfl ?_
    simp only [Try.f23, Option.getD_some, initSt2]
    simp (disch := first | (simp only [go_sem, Bool.and_self, eq_self]; done) | omega | (simp only [List.length_cons, List.length_nil]; omega)) only [go_sem, ↓reduceIte, Nat.reduceEqDiff, Nat.reduceAdd, Nat.reduceMul, Nat.reduceSub, Int.reduceToNat, Nat.reduceBEq, List.size_toArray, List.length_cons, List.length_nil, Bool.false_and, Bool.true_and, Bool.or_false, Bool.false_or, Bool.and_false, Bool.and_true, h1, h2, kr]
/-- The table's bounds. -/
def okT (q : Int × Int) : Bool := decide (0 ≤ q.1) && (decide (q.1 ≤ q.2) && (decide (1 ≤ q.2) && decide (q.2 ≤ 2147483647)))
theorem ch_bounds : ((List.range 20).all fun n => (List.range (n + 1)).all fun k => okT (chP (n + 1) k)) = true := by kernel_rfl
theorem ch_ok {n k : Nat} (h1 : 1 ≤ n) (h2 : n ≤ 20) (h3 : k < n) : (0 ≤ (chP n k).1 ∧ (chP n k).1 ≤ (chP n k).2) ∧ (1 ≤ (chP n k).2 ∧ (chP n k).2 ≤ 2147483647) := by
  have b := in_tab (P := fun n k => okT (chP n k)) ch_bounds h1 h2 h3
  simp only [okT, Bool.and_eq_true, decide_eq_true_eq] at b
  exact ⟨⟨b.1, b.2.1⟩, b.2.2⟩
theorem ch_mul {n k j : Nat} (h1 : 1 ≤ n) (h2 : n ≤ 20) (h3 : k < n) (h4 : j < n) : -big ≤ (chP n k).1 * (chP n j).2 ∧ (chP n k).1 * (chP n j).2 ≤ big := by
  obtain ⟨a1, a2⟩ := ch_ok h1 h2 h3
  obtain ⟨b1, b2⟩ := ch_ok h1 h2 h4
  have m0 : 0 ≤ (chP n k).1 * (chP n j).2 := Int.mul_nonneg a1.1 (by omega)
  have m1 : (chP n k).1 * (chP n j).2 ≤ 2147483647 * 2147483647 := Int.mul_le_mul (by omega) (by omega) (by omega) (by omega)
  simp only [big]
  omega
/-- The number to skip, among the first m. -/
def secP (n : Nat) : Nat → Nat
  | 0 => 0
  | m + 1 => if lessP (chP n (secP n m)) (chP n m) then m else secP n m
theorem secP_lt (n : Nat) : ∀ m, m ≤ n → 0 < n → secP n m < n
  | 0, _, h => h
  | m + 1, hm, h => by
    rw [secP]
    split
    · omega
    · exact secP_lt n m (by omega) h
def secR (n : Int) : AV := if inB n 1 20 then .tup [I (secP n.toNat n.toNat), FR (chP n.toNat (secP n.toNat n.toNat)), I 0] else .tup [I 0, FR (0, 0), I 2]
theorem f24_con (n : Int) : Con Try.prog cfg 24 [I n] (secR n) := by
  cases h1 : inB n 1 20 with
  | false =>
    have hr : secR n = .tup [I 0, FR (0, 0), I 2] := by simp [secR, h1]
    rw [hr]
    refine Con_intro Try.func24 rfl ok24 (Nat.le_of_ble_eq_true rfl) rfl ?_
    simp only [Try.f24, Option.getD_some, initSt1]
    simp (disch := first | (simp only [go_sem, Bool.and_self, eq_self]; done) | omega | (simp only [List.length_cons, List.length_nil]; omega)) only [go_sem, ↓reduceIte, Nat.reduceEqDiff, Nat.reduceAdd, Nat.reduceMul, Nat.reduceSub, Int.reduceToNat, Nat.reduceBEq, List.size_toArray, List.length_cons, List.length_nil, Bool.false_and, Bool.true_and, Bool.or_false, Bool.false_or, Bool.and_false, Bool.and_true, h1]
  | true =>
  have h1' := h1
  simp only [inB, Bool.and_eq_true, decide_eq_true_eq] at h1'
  obtain ⟨N, rfl⟩ := Int.eq_ofNat_of_zero_le (show 0 ≤ n by omega)
  have hN : 1 ≤ N ∧ N ≤ 20 := by omega
  have hr : secR (N : Int) = .tup [I (secP N N), FR (chP N (secP N N)), I 0] := by simp [secR, h1]
  rw [hr]
  refine Con_intro Try.func24 rfl ok24 (Nat.le_of_ble_eq_true rfl) rfl ?_
  simp only [Try.f24, Option.getD_some, initSt1]
  simp (disch := first | (simp only [go_sem, Bool.and_self, eq_self]; done) | omega | (simp only [List.length_cons, List.length_nil]; omega)) only [go_sem, ↓reduceIte, Nat.reduceEqDiff, Nat.reduceAdd, Nat.reduceMul, Nat.reduceSub, Int.reduceToNat, Nat.reduceBEq, List.size_toArray, List.length_cons, List.length_nil, Bool.false_and, Bool.true_and, Bool.or_false, Bool.false_or, Bool.and_false, Bool.and_true, h1]
  refine WP_cut (fun st h => st 0 = I N ∧ st 2 = I 0 ∧ st 3 = .ptr 0 0 ∧ st 4 = I 0 ∧ st 11 = I N ∧ h.bl 0 = some (.cells false false [I 0, I 0]) ∧ st 5 = I (secP N N)) ?_ ?_
  · refine WP_for 12 N (fun i st h => st 0 = I N ∧ st 2 = I 0 ∧ st 3 = .ptr 0 0 ∧ st 4 = I 0 ∧ st 11 = I N ∧ h.bl 0 = some (.cells false false [I 0, I 0]) ∧ st 5 = I (secP N i)) (by simp (disch := first | (simp only [go_sem, Bool.and_self, eq_self]; done) | omega | (simp only [List.length_cons, List.length_nil]; omega)) only [go_sem, ↓reduceIte, Nat.reduceEqDiff, Nat.reduceAdd, Nat.reduceMul, Nat.reduceSub, Int.reduceToNat, Nat.reduceBEq, List.size_toArray, List.length_cons, List.length_nil, Bool.false_and, Bool.true_and, Bool.or_false, Bool.false_or, Bool.and_false, Bool.and_true]) ⟨by simp (disch := first | (simp only [go_sem, Bool.and_self, eq_self]; done) | omega | (simp only [List.length_cons, List.length_nil]; omega)) only [go_sem, ↓reduceIte, Nat.reduceEqDiff, Nat.reduceAdd, Nat.reduceMul, Nat.reduceSub, Int.reduceToNat, Nat.reduceBEq, List.size_toArray, List.length_cons, List.length_nil, Bool.false_and, Bool.true_and, Bool.or_false, Bool.false_or, Bool.and_false, Bool.and_true], by simp (disch := first | (simp only [go_sem, Bool.and_self, eq_self]; done) | omega | (simp only [List.length_cons, List.length_nil]; omega)) only [go_sem, ↓reduceIte, Nat.reduceEqDiff, Nat.reduceAdd, Nat.reduceMul, Nat.reduceSub, Int.reduceToNat, Nat.reduceBEq, List.size_toArray, List.length_cons, List.length_nil, Bool.false_and, Bool.true_and, Bool.or_false, Bool.false_or, Bool.and_false, Bool.and_true], by simp (disch := first | (simp only [go_sem, Bool.and_self, eq_self]; done) | omega | (simp only [List.length_cons, List.length_nil]; omega)) only [go_sem, ↓reduceIte, Nat.reduceEqDiff, Nat.reduceAdd, Nat.reduceMul, Nat.reduceSub, Int.reduceToNat, Nat.reduceBEq, List.size_toArray, List.length_cons, List.length_nil, Bool.false_and, Bool.true_and, Bool.or_false, Bool.false_or, Bool.and_false, Bool.and_true], by simp (disch := first | (simp only [go_sem, Bool.and_self, eq_self]; done) | omega | (simp only [List.length_cons, List.length_nil]; omega)) only [go_sem, ↓reduceIte, Nat.reduceEqDiff, Nat.reduceAdd, Nat.reduceMul, Nat.reduceSub, Int.reduceToNat, Nat.reduceBEq, List.size_toArray, List.length_cons, List.length_nil, Bool.false_and, Bool.true_and, Bool.or_false, Bool.false_or, Bool.and_false, Bool.and_true], by simp (disch := first | (simp only [go_sem, Bool.and_self, eq_self]; done) | omega | (simp only [List.length_cons, List.length_nil]; omega)) only [go_sem, ↓reduceIte, Nat.reduceEqDiff, Nat.reduceAdd, Nat.reduceMul, Nat.reduceSub, Int.reduceToNat, Nat.reduceBEq, List.size_toArray, List.length_cons, List.length_nil, Bool.false_and, Bool.true_and, Bool.or_false, Bool.false_or, Bool.and_false, Bool.and_true], by simp (disch := first | (simp only [go_sem, Bool.and_self, eq_self]; done) | omega | (simp only [List.length_cons, List.length_nil]; omega)) only [go_sem, ↓reduceIte, Nat.reduceEqDiff, Nat.reduceAdd, Nat.reduceMul, Nat.reduceSub, Int.reduceToNat, Nat.reduceBEq, List.size_toArray, List.length_cons, List.length_nil, Bool.false_and, Bool.true_and, Bool.or_false, Bool.false_or, Bool.and_false, Bool.and_true], by simp (disch := first | (simp only [go_sem, Bool.and_self, eq_self]; done) | omega | (simp only [List.length_cons, List.length_nil]; omega)) only [go_sem, ↓reduceIte, Nat.reduceEqDiff, Nat.reduceAdd, Nat.reduceMul, Nat.reduceSub, Int.reduceToNat, Nat.reduceBEq, List.size_toArray, List.length_cons, List.length_nil, Bool.false_and, Bool.true_and, Bool.or_false, Bool.false_or, Bool.and_false, Bool.and_true]; rfl⟩ ?_
    rintro i st h hi s12 ⟨s0, s2, s3, s4, s11, b0, s5⟩
    by_cases hlt : i < N
    case neg =>
      have hiN : i = N := by omega
      subst hiN
      simp (disch := first | (simp only [go_sem, Bool.and_self, eq_self]; done) | omega | (simp only [List.length_cons, List.length_nil]; omega)) only [go_sem, ↓reduceIte, Nat.reduceEqDiff, Nat.reduceAdd, Nat.reduceMul, Nat.reduceSub, Int.reduceToNat, Nat.reduceBEq, List.size_toArray, List.length_cons, List.length_nil, Bool.false_and, Bool.true_and, Bool.or_false, Bool.false_or, Bool.and_false, Bool.and_true, s0, s2, s3, s4, s11, s5, s12, hlt, b0]
    have hs := secP_lt N i (by omega) (by omega)
    have e1 := ch_mul (n := N) (k := i) (j := secP N i) hN.1 hN.2 hlt hs
    have e2 := ch_mul (n := N) (k := secP N i) (j := i) hN.1 hN.2 hs hlt
    have ka := fun h h' K => k51 (h := h) (h' := h') (K := K) hN.1 hN.2 hlt
    have kb := fun h h' K => k51 (h := h) (h' := h') (K := K) hN.1 hN.2 hs
    have kc := fun h h' K => ConW_num (h := h) (h' := h') (K := K) (f52_con (chP N i) (chP N (secP N i)) e1 e2) rfl
    have hstep : secP N (i + 1) = if lessP (chP N (secP N i)) (chP N i) then i else secP N i := rfl
    have hc : decide (0 < cmpP (chP N i) (chP N (secP N i))) = lessP (chP N (secP N i)) (chP N i) := by
      rw [cmpP, lessP]
      by_cases c1 : (chP N i).1 * (chP N (secP N i)).2 < (chP N (secP N i)).1 * (chP N i).2
      · have : ¬ (chP N (secP N i)).1 * (chP N i).2 < (chP N i).1 * (chP N (secP N i)).2 := by omega
        simp [c1, this]
      · by_cases c2 : (chP N (secP N i)).1 * (chP N i).2 < (chP N i).1 * (chP N (secP N i)).2
        · simp [c1, c2]
        · simp [c1, c2]
    cases hl : lessP (chP N (secP N i)) (chP N i) with
    | true =>
      rw [hl] at hc hstep
      simp (disch := first | (simp only [go_sem, Bool.and_self, eq_self]; done) | omega | (simp only [List.length_cons, List.length_nil]; omega)) only [go_sem, ↓reduceIte, Nat.reduceEqDiff, Nat.reduceAdd, Nat.reduceMul, Nat.reduceSub, Int.reduceToNat, Nat.reduceBEq, List.size_toArray, List.length_cons, List.length_nil, Bool.false_and, Bool.true_and, Bool.or_false, Bool.false_or, Bool.and_false, Bool.and_true, s0, s2, s3, s4, s11, s5, s12, hlt, ka, kb, kc, hc]
      rw [ForK_normal]
      exact ⟨hlt, by simp (disch := first | (simp only [go_sem, Bool.and_self, eq_self]; done) | omega | (simp only [List.length_cons, List.length_nil]; omega)) only [go_sem, ↓reduceIte, Nat.reduceEqDiff, Nat.reduceAdd, Nat.reduceMul, Nat.reduceSub, Int.reduceToNat, Nat.reduceBEq, List.size_toArray, List.length_cons, List.length_nil, Bool.false_and, Bool.true_and, Bool.or_false, Bool.false_or, Bool.and_false, Bool.and_true, s12], by simp (disch := first | (simp only [go_sem, Bool.and_self, eq_self]; done) | omega | (simp only [List.length_cons, List.length_nil]; omega)) only [go_sem, ↓reduceIte, Nat.reduceEqDiff, Nat.reduceAdd, Nat.reduceMul, Nat.reduceSub, Int.reduceToNat, Nat.reduceBEq, List.size_toArray, List.length_cons, List.length_nil, Bool.false_and, Bool.true_and, Bool.or_false, Bool.false_or, Bool.and_false, Bool.and_true, s0], by simp (disch := first | (simp only [go_sem, Bool.and_self, eq_self]; done) | omega | (simp only [List.length_cons, List.length_nil]; omega)) only [go_sem, ↓reduceIte, Nat.reduceEqDiff, Nat.reduceAdd, Nat.reduceMul, Nat.reduceSub, Int.reduceToNat, Nat.reduceBEq, List.size_toArray, List.length_cons, List.length_nil, Bool.false_and, Bool.true_and, Bool.or_false, Bool.false_or, Bool.and_false, Bool.and_true, s2], by simp (disch := first | (simp only [go_sem, Bool.and_self, eq_self]; done) | omega | (simp only [List.length_cons, List.length_nil]; omega)) only [go_sem, ↓reduceIte, Nat.reduceEqDiff, Nat.reduceAdd, Nat.reduceMul, Nat.reduceSub, Int.reduceToNat, Nat.reduceBEq, List.size_toArray, List.length_cons, List.length_nil, Bool.false_and, Bool.true_and, Bool.or_false, Bool.false_or, Bool.and_false, Bool.and_true, s3], by simp (disch := first | (simp only [go_sem, Bool.and_self, eq_self]; done) | omega | (simp only [List.length_cons, List.length_nil]; omega)) only [go_sem, ↓reduceIte, Nat.reduceEqDiff, Nat.reduceAdd, Nat.reduceMul, Nat.reduceSub, Int.reduceToNat, Nat.reduceBEq, List.size_toArray, List.length_cons, List.length_nil, Bool.false_and, Bool.true_and, Bool.or_false, Bool.false_or, Bool.and_false, Bool.and_true, s4], by simp (disch := first | (simp only [go_sem, Bool.and_self, eq_self]; done) | omega | (simp only [List.length_cons, List.length_nil]; omega)) only [go_sem, ↓reduceIte, Nat.reduceEqDiff, Nat.reduceAdd, Nat.reduceMul, Nat.reduceSub, Int.reduceToNat, Nat.reduceBEq, List.size_toArray, List.length_cons, List.length_nil, Bool.false_and, Bool.true_and, Bool.or_false, Bool.false_or, Bool.and_false, Bool.and_true, s11], b0, by rw [hstep]; simp (disch := first | (simp only [go_sem, Bool.and_self, eq_self]; done) | omega | (simp only [List.length_cons, List.length_nil]; omega)) only [go_sem, ↓reduceIte, Nat.reduceEqDiff, Nat.reduceAdd, Nat.reduceMul, Nat.reduceSub, Int.reduceToNat, Nat.reduceBEq, List.size_toArray, List.length_cons, List.length_nil, Bool.false_and, Bool.true_and, Bool.or_false, Bool.false_or, Bool.and_false, Bool.and_true]⟩
    | false =>
      rw [hl] at hc hstep
      simp (disch := first | (simp only [go_sem, Bool.and_self, eq_self]; done) | omega | (simp only [List.length_cons, List.length_nil]; omega)) only [go_sem, ↓reduceIte, Nat.reduceEqDiff, Nat.reduceAdd, Nat.reduceMul, Nat.reduceSub, Int.reduceToNat, Nat.reduceBEq, List.size_toArray, List.length_cons, List.length_nil, Bool.false_and, Bool.true_and, Bool.or_false, Bool.false_or, Bool.and_false, Bool.and_true, s0, s2, s3, s4, s11, s5, s12, hlt, ka, kb, kc, hc]
      rw [ForK_normal]
      exact ⟨hlt, by simp (disch := first | (simp only [go_sem, Bool.and_self, eq_self]; done) | omega | (simp only [List.length_cons, List.length_nil]; omega)) only [go_sem, ↓reduceIte, Nat.reduceEqDiff, Nat.reduceAdd, Nat.reduceMul, Nat.reduceSub, Int.reduceToNat, Nat.reduceBEq, List.size_toArray, List.length_cons, List.length_nil, Bool.false_and, Bool.true_and, Bool.or_false, Bool.false_or, Bool.and_false, Bool.and_true, s12], by simp (disch := first | (simp only [go_sem, Bool.and_self, eq_self]; done) | omega | (simp only [List.length_cons, List.length_nil]; omega)) only [go_sem, ↓reduceIte, Nat.reduceEqDiff, Nat.reduceAdd, Nat.reduceMul, Nat.reduceSub, Int.reduceToNat, Nat.reduceBEq, List.size_toArray, List.length_cons, List.length_nil, Bool.false_and, Bool.true_and, Bool.or_false, Bool.false_or, Bool.and_false, Bool.and_true, s0], by simp (disch := first | (simp only [go_sem, Bool.and_self, eq_self]; done) | omega | (simp only [List.length_cons, List.length_nil]; omega)) only [go_sem, ↓reduceIte, Nat.reduceEqDiff, Nat.reduceAdd, Nat.reduceMul, Nat.reduceSub, Int.reduceToNat, Nat.reduceBEq, List.size_toArray, List.length_cons, List.length_nil, Bool.false_and, Bool.true_and, Bool.or_false, Bool.false_or, Bool.and_false, Bool.and_true, s2], by simp (disch := first | (simp only [go_sem, Bool.and_self, eq_self]; done) | omega | (simp only [List.length_cons, List.length_nil]; omega)) only [go_sem, ↓reduceIte, Nat.reduceEqDiff, Nat.reduceAdd, Nat.reduceMul, Nat.reduceSub, Int.reduceToNat, Nat.reduceBEq, List.size_toArray, List.length_cons, List.length_nil, Bool.false_and, Bool.true_and, Bool.or_false, Bool.false_or, Bool.and_false, Bool.and_true, s3], by simp (disch := first | (simp only [go_sem, Bool.and_self, eq_self]; done) | omega | (simp only [List.length_cons, List.length_nil]; omega)) only [go_sem, ↓reduceIte, Nat.reduceEqDiff, Nat.reduceAdd, Nat.reduceMul, Nat.reduceSub, Int.reduceToNat, Nat.reduceBEq, List.size_toArray, List.length_cons, List.length_nil, Bool.false_and, Bool.true_and, Bool.or_false, Bool.false_or, Bool.and_false, Bool.and_true, s4], by simp (disch := first | (simp only [go_sem, Bool.and_self, eq_self]; done) | omega | (simp only [List.length_cons, List.length_nil]; omega)) only [go_sem, ↓reduceIte, Nat.reduceEqDiff, Nat.reduceAdd, Nat.reduceMul, Nat.reduceSub, Int.reduceToNat, Nat.reduceBEq, List.size_toArray, List.length_cons, List.length_nil, Bool.false_and, Bool.true_and, Bool.or_false, Bool.false_or, Bool.and_false, Bool.and_true, s11], b0, by rw [hstep]; simp (disch := first | (simp only [go_sem, Bool.and_self, eq_self]; done) | omega | (simp only [List.length_cons, List.length_nil]; omega)) only [go_sem, ↓reduceIte, Nat.reduceEqDiff, Nat.reduceAdd, Nat.reduceMul, Nat.reduceSub, Int.reduceToNat, Nat.reduceBEq, List.size_toArray, List.length_cons, List.length_nil, Bool.false_and, Bool.true_and, Bool.or_false, Bool.false_or, Bool.and_false, Bool.and_true, s5]⟩
  · rintro st h ⟨s0, s2, s3, s4, s11, b0, s5⟩
    have hs := secP_lt N N (Nat.le_refl _) (by omega)
    have ka := fun h h' K => k51 (h := h) (h' := h') (K := K) hN.1 hN.2 hs
    simp (disch := first | (simp only [go_sem, Bool.and_self, eq_self]; done) | omega | (simp only [List.length_cons, List.length_nil]; omega)) only [go_sem, ↓reduceIte, Nat.reduceEqDiff, Nat.reduceAdd, Nat.reduceMul, Nat.reduceSub, Int.reduceToNat, Nat.reduceBEq, List.size_toArray, List.length_cons, List.length_nil, Bool.false_and, Bool.true_and, Bool.or_false, Bool.false_or, Bool.and_false, Bool.and_true, s0, s2, s3, s4, s11, s5, b0, ka]

/-! ### The reference's -/
theorem f25_con (N : Nat) (hN : 1 ≤ N ∧ N ≤ 20) : Con Try.prog cfg 25 [I N] (.tup [I (secP N N), FR (chP N (secP N N))]) := by
  refine Con_intro Try.func25 rfl ok25 (Nat.le_of_ble_eq_true rfl) rfl ?_
  simp only [Try.f25, Option.getD_some, initSt1]
  simp (disch := first | (simp only [go_sem, Bool.and_self, eq_self]; done) | omega | (simp only [List.length_cons, List.length_nil]; omega)) only [go_sem, ↓reduceIte, Nat.reduceEqDiff, Nat.reduceAdd, Nat.reduceMul, Nat.reduceSub, Int.reduceToNat, Nat.reduceBEq, List.size_toArray, List.length_cons, List.length_nil, Bool.false_and, Bool.true_and, Bool.or_false, Bool.false_or, Bool.and_false, Bool.and_true]
  refine WP_cut (fun st h => st 0 = I N ∧ st 2 = I 0 ∧ st 3 = .ptr 0 0 ∧ h.bl 0 = some (.cells false false [I 0, I 0]) ∧ st 4 = I (secP N N)) ?_ ?_
  · have h00 : lessP (chP N 0) (chP N 0) = false := by simp [lessP]
    have h01 : secP N 1 = 0 := by
      show (if lessP (chP N 0) (chP N 0) then 0 else 0) = 0
      split <;> rfl
    refine WP_for1 5 N (fun i st h => st 0 = I N ∧ st 2 = I 0 ∧ st 3 = .ptr 0 0 ∧ h.bl 0 = some (.cells false false [I 0, I 0]) ∧ st 4 = I (secP N (i + 1)) ∧ i + 1 ≤ N) (by simp (disch := first | (simp only [go_sem, Bool.and_self, eq_self]; done) | omega | (simp only [List.length_cons, List.length_nil]; omega)) only [go_sem, ↓reduceIte, Nat.reduceEqDiff, Nat.reduceAdd, Nat.reduceMul, Nat.reduceSub, Int.reduceToNat, Nat.reduceBEq, List.size_toArray, List.length_cons, List.length_nil, Bool.false_and, Bool.true_and, Bool.or_false, Bool.false_or, Bool.and_false, Bool.and_true]) ⟨by simp (disch := first | (simp only [go_sem, Bool.and_self, eq_self]; done) | omega | (simp only [List.length_cons, List.length_nil]; omega)) only [go_sem, ↓reduceIte, Nat.reduceEqDiff, Nat.reduceAdd, Nat.reduceMul, Nat.reduceSub, Int.reduceToNat, Nat.reduceBEq, List.size_toArray, List.length_cons, List.length_nil, Bool.false_and, Bool.true_and, Bool.or_false, Bool.false_or, Bool.and_false, Bool.and_true], by simp (disch := first | (simp only [go_sem, Bool.and_self, eq_self]; done) | omega | (simp only [List.length_cons, List.length_nil]; omega)) only [go_sem, ↓reduceIte, Nat.reduceEqDiff, Nat.reduceAdd, Nat.reduceMul, Nat.reduceSub, Int.reduceToNat, Nat.reduceBEq, List.size_toArray, List.length_cons, List.length_nil, Bool.false_and, Bool.true_and, Bool.or_false, Bool.false_or, Bool.and_false, Bool.and_true], by simp (disch := first | (simp only [go_sem, Bool.and_self, eq_self]; done) | omega | (simp only [List.length_cons, List.length_nil]; omega)) only [go_sem, ↓reduceIte, Nat.reduceEqDiff, Nat.reduceAdd, Nat.reduceMul, Nat.reduceSub, Int.reduceToNat, Nat.reduceBEq, List.size_toArray, List.length_cons, List.length_nil, Bool.false_and, Bool.true_and, Bool.or_false, Bool.false_or, Bool.and_false, Bool.and_true], by simp (disch := first | (simp only [go_sem, Bool.and_self, eq_self]; done) | omega | (simp only [List.length_cons, List.length_nil]; omega)) only [go_sem, ↓reduceIte, Nat.reduceEqDiff, Nat.reduceAdd, Nat.reduceMul, Nat.reduceSub, Int.reduceToNat, Nat.reduceBEq, List.size_toArray, List.length_cons, List.length_nil, Bool.false_and, Bool.true_and, Bool.or_false, Bool.false_or, Bool.and_false, Bool.and_true], by rw [h01]; simp (disch := first | (simp only [go_sem, Bool.and_self, eq_self]; done) | omega | (simp only [List.length_cons, List.length_nil]; omega)) only [go_sem, ↓reduceIte, Nat.reduceEqDiff, Nat.reduceAdd, Nat.reduceMul, Nat.reduceSub, Int.reduceToNat, Nat.reduceBEq, List.size_toArray, List.length_cons, List.length_nil, Bool.false_and, Bool.true_and, Bool.or_false, Bool.false_or, Bool.and_false, Bool.and_true]; rfl, by omega⟩ ?_
    rintro i st h hi s5 ⟨s0, s2, s3, b0, s4, hiN⟩
    by_cases hlt : i + 1 < N
    case neg =>
      have hiN : i + 1 = N := by omega
      have hlt' : ¬ (i : Int) + 1 < N := by omega
      rw [hiN] at s4
      simp (disch := first | (simp only [go_sem, Bool.and_self, eq_self]; done) | omega | (simp only [List.length_cons, List.length_nil]; omega)) only [go_sem, ↓reduceIte, Nat.reduceEqDiff, Nat.reduceAdd, Nat.reduceMul, Nat.reduceSub, Int.reduceToNat, Nat.reduceBEq, List.size_toArray, List.length_cons, List.length_nil, Bool.false_and, Bool.true_and, Bool.or_false, Bool.false_or, Bool.and_false, Bool.and_true, s0, s2, s3, s4, s5, hlt', b0]
    have hlt' : (i : Int) + 1 < N := by omega
    have hs := secP_lt N (i + 1) (by omega) (by omega)
    have e1 := ch_mul (n := N) (k := i + 1) (j := secP N (i + 1)) hN.1 hN.2 hlt hs
    have e2 := ch_mul (n := N) (k := secP N (i + 1)) (j := i + 1) hN.1 hN.2 hs hlt
    have ka := fun h h' K => k26 (h := h) (h' := h') (K := K) hN.1 hN.2 hlt
    have kb := fun h h' K => k26 (h := h) (h' := h') (K := K) hN.1 hN.2 hs
    have kc := fun h h' K => ConW_num (h := h) (h' := h') (K := K) (f20_con (chP N (secP N (i + 1))) (chP N (i + 1)) e2 e1) rfl
    have hstep : secP N (i + 1 + 1) = if lessP (chP N (secP N (i + 1))) (chP N (i + 1)) then i + 1 else secP N (i + 1) := rfl
    have hcast : ((i + 1 : Nat) : Int) = (i : Int) + 1 := by omega
    rw [hcast] at ka
    cases hl : lessP (chP N (secP N (i + 1))) (chP N (i + 1)) with
    | true =>
      rw [hl] at hstep
      simp (disch := first | (simp only [go_sem, Bool.and_self, eq_self]; done) | omega | (simp only [List.length_cons, List.length_nil]; omega)) only [go_sem, ↓reduceIte, Nat.reduceEqDiff, Nat.reduceAdd, Nat.reduceMul, Nat.reduceSub, Int.reduceToNat, Nat.reduceBEq, List.size_toArray, List.length_cons, List.length_nil, Bool.false_and, Bool.true_and, Bool.or_false, Bool.false_or, Bool.and_false, Bool.and_true, s0, s2, s3, s4, s5, hlt', ka, kb, kc, hl]
      rw [For1K_normal]
      exact ⟨by omega, by simp (disch := first | (simp only [go_sem, Bool.and_self, eq_self]; done) | omega | (simp only [List.length_cons, List.length_nil]; omega)) only [go_sem, ↓reduceIte, Nat.reduceEqDiff, Nat.reduceAdd, Nat.reduceMul, Nat.reduceSub, Int.reduceToNat, Nat.reduceBEq, List.size_toArray, List.length_cons, List.length_nil, Bool.false_and, Bool.true_and, Bool.or_false, Bool.false_or, Bool.and_false, Bool.and_true, s5], by simp (disch := first | (simp only [go_sem, Bool.and_self, eq_self]; done) | omega | (simp only [List.length_cons, List.length_nil]; omega)) only [go_sem, ↓reduceIte, Nat.reduceEqDiff, Nat.reduceAdd, Nat.reduceMul, Nat.reduceSub, Int.reduceToNat, Nat.reduceBEq, List.size_toArray, List.length_cons, List.length_nil, Bool.false_and, Bool.true_and, Bool.or_false, Bool.false_or, Bool.and_false, Bool.and_true, s0], by simp (disch := first | (simp only [go_sem, Bool.and_self, eq_self]; done) | omega | (simp only [List.length_cons, List.length_nil]; omega)) only [go_sem, ↓reduceIte, Nat.reduceEqDiff, Nat.reduceAdd, Nat.reduceMul, Nat.reduceSub, Int.reduceToNat, Nat.reduceBEq, List.size_toArray, List.length_cons, List.length_nil, Bool.false_and, Bool.true_and, Bool.or_false, Bool.false_or, Bool.and_false, Bool.and_true, s2], by simp (disch := first | (simp only [go_sem, Bool.and_self, eq_self]; done) | omega | (simp only [List.length_cons, List.length_nil]; omega)) only [go_sem, ↓reduceIte, Nat.reduceEqDiff, Nat.reduceAdd, Nat.reduceMul, Nat.reduceSub, Int.reduceToNat, Nat.reduceBEq, List.size_toArray, List.length_cons, List.length_nil, Bool.false_and, Bool.true_and, Bool.or_false, Bool.false_or, Bool.and_false, Bool.and_true, s3], b0, (by rw [hstep]; simp (disch := first | (simp only [go_sem, Bool.and_self, eq_self]; done) | omega | (simp only [List.length_cons, List.length_nil]; omega)) only [go_sem, ↓reduceIte, Nat.reduceEqDiff, Nat.reduceAdd, Nat.reduceMul, Nat.reduceSub, Int.reduceToNat, Nat.reduceBEq, List.size_toArray, List.length_cons, List.length_nil, Bool.false_and, Bool.true_and, Bool.or_false, Bool.false_or, Bool.and_false, Bool.and_true]; congr 1), by omega⟩
    | false =>
      rw [hl] at hstep
      simp (disch := first | (simp only [go_sem, Bool.and_self, eq_self]; done) | omega | (simp only [List.length_cons, List.length_nil]; omega)) only [go_sem, ↓reduceIte, Nat.reduceEqDiff, Nat.reduceAdd, Nat.reduceMul, Nat.reduceSub, Int.reduceToNat, Nat.reduceBEq, List.size_toArray, List.length_cons, List.length_nil, Bool.false_and, Bool.true_and, Bool.or_false, Bool.false_or, Bool.and_false, Bool.and_true, s0, s2, s3, s4, s5, hlt', ka, kb, kc, hl]
      rw [For1K_normal]
      exact ⟨by omega, by simp (disch := first | (simp only [go_sem, Bool.and_self, eq_self]; done) | omega | (simp only [List.length_cons, List.length_nil]; omega)) only [go_sem, ↓reduceIte, Nat.reduceEqDiff, Nat.reduceAdd, Nat.reduceMul, Nat.reduceSub, Int.reduceToNat, Nat.reduceBEq, List.size_toArray, List.length_cons, List.length_nil, Bool.false_and, Bool.true_and, Bool.or_false, Bool.false_or, Bool.and_false, Bool.and_true, s5], by simp (disch := first | (simp only [go_sem, Bool.and_self, eq_self]; done) | omega | (simp only [List.length_cons, List.length_nil]; omega)) only [go_sem, ↓reduceIte, Nat.reduceEqDiff, Nat.reduceAdd, Nat.reduceMul, Nat.reduceSub, Int.reduceToNat, Nat.reduceBEq, List.size_toArray, List.length_cons, List.length_nil, Bool.false_and, Bool.true_and, Bool.or_false, Bool.false_or, Bool.and_false, Bool.and_true, s0], by simp (disch := first | (simp only [go_sem, Bool.and_self, eq_self]; done) | omega | (simp only [List.length_cons, List.length_nil]; omega)) only [go_sem, ↓reduceIte, Nat.reduceEqDiff, Nat.reduceAdd, Nat.reduceMul, Nat.reduceSub, Int.reduceToNat, Nat.reduceBEq, List.size_toArray, List.length_cons, List.length_nil, Bool.false_and, Bool.true_and, Bool.or_false, Bool.false_or, Bool.and_false, Bool.and_true, s2], by simp (disch := first | (simp only [go_sem, Bool.and_self, eq_self]; done) | omega | (simp only [List.length_cons, List.length_nil]; omega)) only [go_sem, ↓reduceIte, Nat.reduceEqDiff, Nat.reduceAdd, Nat.reduceMul, Nat.reduceSub, Int.reduceToNat, Nat.reduceBEq, List.size_toArray, List.length_cons, List.length_nil, Bool.false_and, Bool.true_and, Bool.or_false, Bool.false_or, Bool.and_false, Bool.and_true, s3], b0, (by rw [hstep]; simp (disch := first | (simp only [go_sem, Bool.and_self, eq_self]; done) | omega | (simp only [List.length_cons, List.length_nil]; omega)) only [go_sem, ↓reduceIte, Nat.reduceEqDiff, Nat.reduceAdd, Nat.reduceMul, Nat.reduceSub, Int.reduceToNat, Nat.reduceBEq, List.size_toArray, List.length_cons, List.length_nil, Bool.false_and, Bool.true_and, Bool.or_false, Bool.false_or, Bool.and_false, Bool.and_true, s4]), by omega⟩
  · rintro st h ⟨s0, s2, s3, b0, s4⟩
    have hs := secP_lt N N (Nat.le_refl _) (by omega)
    have ka := fun h h' K => k26 (h := h) (h' := h') (K := K) hN.1 hN.2 hs
    simp (disch := first | (simp only [go_sem, Bool.and_self, eq_self]; done) | omega | (simp only [List.length_cons, List.length_nil]; omega)) only [go_sem, ↓reduceIte, Nat.reduceEqDiff, Nat.reduceAdd, Nat.reduceMul, Nat.reduceSub, Int.reduceToNat, Nat.reduceBEq, List.size_toArray, List.length_cons, List.length_nil, Bool.false_and, Bool.true_and, Bool.or_false, Bool.false_or, Bool.and_false, Bool.and_true, s0, s2, s3, s4, b0, ka]
end Go.Proofs.Ytgamcclfdkpcgaa

set_option linter.unusedVariables false
set_option linter.unusedSimpArgs false
set_option maxRecDepth 10000
namespace Go.Proofs.Ytgamcclfdkpcgaa
open Go Go.Am

variable {h h' : Hp} {K : AV → Hp → Prop}

def baseL : List Nat := [18, 20, 22, 23, 24, 25, 26, 27, 38, 39, 40, 41, 42, 43, 44, 45]
open Classical in
noncomputable def extY (f : FuncId) (args : List AV) : Option AV :=
  if f = 21 then (if args = [] then some (.bool true) else none)
  else if baseL.contains f = true then (if h : ∃ r, Con Try.prog cfg f args r then some h.choose else none) else none
noncomputable def cfgY : Cfg := { cfg with ext := extY }
theorem hextY : ExtOk Try.prog cfgY := by
  intro f args r he
  have he : extY f args = some r := he
  unfold extY at he
  split at he
  · rename_i h21
    split at he
    · rename_i hn
      cases he
      subst h21; subst hn
      exact ⟨f21_pure, fun _ => rfl⟩
    · cases he
  split at he
  · rename_i hbase
    split at he
    · rename_i h
      cases he
      obtain ⟨k, hk⟩ := h.choose_spec
      exact ⟨(sound hext0 k).2.2.1 _ _ _ hk, fun ho => callP_pure (P := Try.prog) (cfg := cfg) (fun _ _ _ h => by cases h) rfl hk⟩
    · cases he
  · cases he
theorem liftY {f : FuncId} {args : List AV} {r : AV} (hb : (decide (f = 21) || !baseL.contains f) = false) (hc : Con Try.prog cfg f args r) : Con Try.prog cfgY f args r := by
  simp only [Bool.or_eq_false_iff, decide_eq_false_iff_not, Bool.not_eq_false'] at hb
  refine ⟨1, ?_⟩
  have : extY f args = some r := by
    unfold extY
    have hex : ∃ r, Con Try.prog cfg f args r := ⟨r, hc⟩
    rw [if_neg hb.1, if_pos hb.2, dif_pos hex]
    obtain ⟨k, hk⟩ := hex.choose_spec
    obtain ⟨k', hk'⟩ := hc
    rw [callP_det hk hk']
  show (match extY f args with | some r => some r | none => _) = _
  rw [this]
theorem awakeY : Con Try.prog cfgY 21 [] (.bool true) := by
  refine ⟨1, ?_⟩
  have : cfgY.ext 21 [] = some (.bool true) := by
    show extY 21 [] = _
    unfold extY
    rw [if_pos rfl, if_pos rfl]
  simp only [callP, this]
@[go_sem] theorem kY21 : ConW Try.prog cfgY 21 h (some ([], h')) K = K (.bool true) h := ConW_num awakeY rfl
@[go_sem] theorem cfgY_strict (a b : Nat) : cfgY.strict a b = cfg.strict a b := rfl
@[go_sem] theorem cfgY_shared (f : Nat) : cfgY.shared f = cfg.shared f := rfl
@[go_sem] theorem cfgY_own (f : Nat) : cfgY.own f = cfg.own f := rfl
@[go_sem] theorem cfgY_kn (f : Nat) : cfgY.keepNil f = cfg.keepNil f := rfl
theorem okY5 : funcOk cfgY Try.f5 (Try.f5.body.getD .skip) = true := by kernel_rfl
theorem okY6 : funcOk cfgY Try.f6 (Try.f6.body.getD .skip) = true := by kernel_rfl
theorem okY7 : funcOk cfgY Try.f7 (Try.f7.body.getD .skip) = true := by kernel_rfl
theorem okY11 : funcOk cfgY Try.f11 (Try.f11.body.getD .skip) = true := by kernel_rfl
theorem okY12 : funcOk cfgY Try.f12 (Try.f12.body.getD .skip) = true := by kernel_rfl
end Go.Proofs.Ytgamcclfdkpcgaa

set_option linter.unusedVariables false
set_option linter.unusedSimpArgs false
set_option maxRecDepth 10000
namespace Go.Proofs.Ytgamcclfdkpcgaa
open Go Go.Am

variable {h h' : Hp} {K : AV → Hp → Prop}

@[go_sem] theorem und77 : Try.prog.underlying 77 = some (.int .u64) := Try.underlying77
def modI (x n : Int) : Int := x % 18446744073709551616 % n
theorem modI_bounds (x : Int) {n : Int} (hn : 0 < n) : 0 ≤ modI x n ∧ modI x n < n := ⟨Int.emod_nonneg _ (by omega), Int.emod_lt_of_pos _ hn⟩
theorem f18_con (x n : Int) (hn : 0 < n ∧ n ≤ 9223372036854775807) : Con Try.prog cfg 18 [I x, I n] (I (modI x n)) := by
  have hw : ∀ y, IntKind.wrap .u64 y = y % 18446744073709551616 := fun y => rfl
  have hn2 : n % 18446744073709551616 = n := Int.emod_eq_of_lt (by omega) (by omega)
  have hx := Int.emod_nonneg x (b := 18446744073709551616) (by decide)
  have ht : (x % 18446744073709551616).tmod n = modI x n := by rw [modI, Int.tmod_eq_emod_of_nonneg hx]
  have hb := modI_bounds x hn.1
  have hne : ¬ n = 0 := by omega
  refine Con_intro Try.func18 rfl ok18 (Nat.le_of_ble_eq_true rfl) rfl ?_
  simp only [Try.f18, Option.getD_some, initSt2]
  simp (disch := first | (simp only [go_sem, Bool.and_self, eq_self]; done) | omega | (simp only [List.length_cons, List.length_nil]; omega)) only [go_sem, ↓reduceIte, Nat.reduceEqDiff, Nat.reduceAdd, Nat.reduceMul, Nat.reduceSub, Int.reduceToNat, Nat.reduceBEq, List.size_toArray, List.length_cons, List.length_nil, Bool.false_and, Bool.true_and, Bool.or_false, Bool.false_or, Bool.and_false, Bool.and_true, hw, hn2, ht, hne]
theorem kY18 (x n : Int) (hn : 0 < n ∧ n ≤ 9223372036854775807) : ConW Try.prog cfgY 18 h (some ([I x, I n], h')) K = K (I (modI x n)) h := ConW_num (liftY (by decide) (f18_con x n hn)) rfl

/-- What the statement asks of the number i. -/
def secT (n i : Nat) : Bool :=
  let p := chP n (secP n n); let q := chP n i
  !lessP p q && (decide (secP n n ≤ i) || lessP q p) && (!decide (i = secP n n) || decide (p = q))
theorem sec_all : ((List.range 20).all fun n => (List.range (n + 1)).all fun i => secT (n + 1) i) = true := by kernel_rfl
theorem sec_36 : ((List.range 20).all fun n => decide (36 * (chP (n + 1) (secP (n + 1) (n + 1))).2 ≤ 100 * (chP (n + 1) (secP (n + 1) (n + 1))).1) && decide (1 ≤ (chP (n + 1) (secP (n + 1) (n + 1))).1)) = true := by kernel_rfl

theorem f7_con (x : Int) : Con Try.prog cfgY 7 [I x] (.bool true) := by
  have hal : ∀ (g : Hp) (x y : Int), allocB g (some (.agg [I x, I y])) = some (.ptr g.nx 0, g.alloc (.cells false false [I x, I y])) := fun g x y => allocB_agg _ rfl
  have hm := modI_bounds x (n := 20) (by decide)
  have k18 := fun h h' K => kY18 (h := h) (h' := h') (K := K) x 20 (by omega)
  generalize modI x 20 = m at *
  obtain ⟨N, hN⟩ : ∃ N : Nat, (N : Int) = 1 + m := ⟨(1 + m).toNat, by omega⟩
  have hN1 : 1 ≤ N ∧ N ≤ 20 := by omega
  have c24 := f24_con (N : Int)
  have e2 : secR (N : Int) = .tup [I (secP N N), FR (chP N (secP N N)), I 0] := by
    have : inB (N : Int) 1 20 = true := by simp [inB]; omega
    simp [secR, this]
  rw [e2] at c24
  have k24 := fun h h' K => ConW_num (h := h) (h' := h') (K := K) (liftY (by decide) c24) rfl
  have hs := secP_lt N N (Nat.le_refl _) (by omega)
  have p1 := ch_ok hN1.1 hN1.2 hs
  have p36 := List.all_eq_true.1 sec_36 (N - 1) (by simp; omega)
  rw [show N - 1 + 1 = N by omega, Bool.and_eq_true, decide_eq_true_eq, decide_eq_true_eq] at p36
  have pT := fun i (hi : i < N) => in_tab (P := secT) sec_all hN1.1 hN1.2 hi
  have pM := fun i (hi : i < N) => ch_mul hN1.1 hN1.2 hs hi
  have pM2 := fun i (hi : i < N) => ch_mul hN1.1 hN1.2 hi hs
  simp only [secT] at pT
  generalize secP N N = k at *
  obtain ⟨p, hp⟩ : ∃ p, p = chP N k := ⟨_, rfl⟩
  rw [← hp] at k24 p1 p36
  have d1 : ¬ p.2 < 1 := by omega
  have d2 : ¬ 2147483648 < p.2 := by omega
  have d3 : ¬ p.1 < 1 := by omega
  have d4 : ¬ p.2 < p.1 := by omega
  have d5 : ¬ (N : Int) ≤ k := by omega
  have d6 : ¬ (k : Int) < 0 := by omega
  have z0 : (0 : Int) = 0 := rfl
  refine Con_intro Try.func7 rfl okY7 (Nat.le_of_ble_eq_true rfl) rfl ?_
  simp only [Try.f7, Option.getD_some, initSt1]
  simp (disch := first | (simp only [go_sem, Bool.and_self, eq_self]; done) | omega | (simp only [List.length_cons, List.length_nil]; omega)) only [go_sem, ↓reduceIte, Nat.reduceEqDiff, Nat.reduceAdd, Nat.reduceMul, Nat.reduceSub, Int.reduceToNat, Nat.reduceBEq, List.size_toArray, List.length_cons, List.length_nil, Bool.false_and, Bool.true_and, Bool.or_false, Bool.false_or, Bool.and_false, Bool.and_true, k18, ← hN, k24, hal, d1, d2, d3, d4, d5, d6, z0, decide_true, Bool.not_true]
  refine WP_cut (fun st h => st 4 = .ptr 0 0 ∧ h.bl 0 = some (.cells false false [I p.1, I p.2])) ?_ ?_
  · refine WP_for 6 N (fun i st h => st 0 = I N ∧ st 3 = I k ∧ st 4 = .ptr 0 0 ∧ 1 ≤ h.nx ∧ h.bl 0 = some (.cells false false [I p.1, I p.2])) (by simp (disch := first | (simp only [go_sem, Bool.and_self, eq_self]; done) | omega | (simp only [List.length_cons, List.length_nil]; omega)) only [go_sem, ↓reduceIte, Nat.reduceEqDiff, Nat.reduceAdd, Nat.reduceMul, Nat.reduceSub, Int.reduceToNat, Nat.reduceBEq, List.size_toArray, List.length_cons, List.length_nil, Bool.false_and, Bool.true_and, Bool.or_false, Bool.false_or, Bool.and_false, Bool.and_true]) ⟨by simp (disch := first | (simp only [go_sem, Bool.and_self, eq_self]; done) | omega | (simp only [List.length_cons, List.length_nil]; omega)) only [go_sem, ↓reduceIte, Nat.reduceEqDiff, Nat.reduceAdd, Nat.reduceMul, Nat.reduceSub, Int.reduceToNat, Nat.reduceBEq, List.size_toArray, List.length_cons, List.length_nil, Bool.false_and, Bool.true_and, Bool.or_false, Bool.false_or, Bool.and_false, Bool.and_true], by simp (disch := first | (simp only [go_sem, Bool.and_self, eq_self]; done) | omega | (simp only [List.length_cons, List.length_nil]; omega)) only [go_sem, ↓reduceIte, Nat.reduceEqDiff, Nat.reduceAdd, Nat.reduceMul, Nat.reduceSub, Int.reduceToNat, Nat.reduceBEq, List.size_toArray, List.length_cons, List.length_nil, Bool.false_and, Bool.true_and, Bool.or_false, Bool.false_or, Bool.and_false, Bool.and_true], by simp (disch := first | (simp only [go_sem, Bool.and_self, eq_self]; done) | omega | (simp only [List.length_cons, List.length_nil]; omega)) only [go_sem, ↓reduceIte, Nat.reduceEqDiff, Nat.reduceAdd, Nat.reduceMul, Nat.reduceSub, Int.reduceToNat, Nat.reduceBEq, List.size_toArray, List.length_cons, List.length_nil, Bool.false_and, Bool.true_and, Bool.or_false, Bool.false_or, Bool.and_false, Bool.and_true], by simp [Hp.put, Hp.alloc], by simp (disch := first | (simp only [go_sem, Bool.and_self, eq_self]; done) | omega | (simp only [List.length_cons, List.length_nil]; omega)) only [go_sem, ↓reduceIte, Nat.reduceEqDiff, Nat.reduceAdd, Nat.reduceMul, Nat.reduceSub, Int.reduceToNat, Nat.reduceBEq, List.size_toArray, List.length_cons, List.length_nil, Bool.false_and, Bool.true_and, Bool.or_false, Bool.false_or, Bool.and_false, Bool.and_true]⟩ ?_
    rintro i st h hi s6 ⟨s0, s3, s4, hnx, b0⟩
    by_cases hlt : i < N
    case neg => simp (disch := first | (simp only [go_sem, Bool.and_self, eq_self]; done) | omega | (simp only [List.length_cons, List.length_nil]; omega)) only [go_sem, ↓reduceIte, Nat.reduceEqDiff, Nat.reduceAdd, Nat.reduceMul, Nat.reduceSub, Int.reduceToNat, Nat.reduceBEq, List.size_toArray, List.length_cons, List.length_nil, Bool.false_and, Bool.true_and, Bool.or_false, Bool.false_or, Bool.and_false, Bool.and_true, s0, s3, s4, s6, hlt, b0]
    have c23 := f23_con (N : Int) (i : Int)
    have e1 : chR (N : Int) (i : Int) = .tup [FR (chP N i), I 0] := by
      have h1 : inB (N : Int) 1 20 = true := by simp [inB]; omega
      have h2 : inB (i : Int) 0 ((N : Int) - 1) = true := by simp [inB]; omega
      simp [chR, chB, h1, h2]
    rw [e1] at c23
    have k23 := fun h h' K => ConW_num (h := h) (h' := h') (K := K) (liftY (by decide) c23) rfl
    have q1 := ch_ok hN1.1 hN1.2 hlt
    have k20a := fun h h' K => ConW_num (h := h) (h' := h') (K := K) (liftY (by decide) (f20_con p (chP N i) (by rw [hp]; exact pM i hlt) (by rw [hp]; exact pM2 i hlt))) rfl
    have k20b := fun h h' K => ConW_num (h := h) (h' := h') (K := K) (liftY (by decide) (f20_con (chP N i) p (by rw [hp]; exact pM2 i hlt) (by rw [hp]; exact pM i hlt))) rfl
    have T := pT i hlt
    rw [← hp] at T
    simp only [Bool.and_eq_true, Bool.not_eq_true', Bool.or_eq_true, decide_eq_true_eq, decide_eq_false_iff_not] at T
    generalize chP N i = q at *
    have c1 : ¬ q.2 < 1 := by omega
    have c2 : ¬ 2147483648 < q.2 := by omega
    have c3 : ¬ q.1 < 0 := by omega
    have c4 : ¬ q.2 < q.1 := by omega
    obtain ⟨⟨t1, t2⟩, t3⟩ := T
    have n0 : ¬ 0 = h.nx := by omega
    by_cases hik : i < k
    · have hqp : lessP q p = true := by rcases t2 with t2 | t2; omega; exact t2
      have hne : ¬ i = k := by omega
      simp (disch := first | (simp only [go_sem, Bool.and_self, eq_self]; done) | omega | (simp only [List.length_cons, List.length_nil]; omega)) only [go_sem, ↓reduceIte, Nat.reduceEqDiff, Nat.reduceAdd, Nat.reduceMul, Nat.reduceSub, Int.reduceToNat, Nat.reduceBEq, List.size_toArray, List.length_cons, List.length_nil, Bool.false_and, Bool.true_and, Bool.or_false, Bool.false_or, Bool.and_false, Bool.and_true, s0, s3, s4, s6, hlt, b0, k23, hal, c1, c2, c3, c4, z0, decide_true, Bool.not_true, k20a, k20b, t1, hqp, hik, hne, n0]
      rw [ForK_normal]
      exact ⟨hlt, by simp (disch := first | (simp only [go_sem, Bool.and_self, eq_self]; done) | omega | (simp only [List.length_cons, List.length_nil]; omega)) only [go_sem, ↓reduceIte, Nat.reduceEqDiff, Nat.reduceAdd, Nat.reduceMul, Nat.reduceSub, Int.reduceToNat, Nat.reduceBEq, List.size_toArray, List.length_cons, List.length_nil, Bool.false_and, Bool.true_and, Bool.or_false, Bool.false_or, Bool.and_false, Bool.and_true, s6], by simp (disch := first | (simp only [go_sem, Bool.and_self, eq_self]; done) | omega | (simp only [List.length_cons, List.length_nil]; omega)) only [go_sem, ↓reduceIte, Nat.reduceEqDiff, Nat.reduceAdd, Nat.reduceMul, Nat.reduceSub, Int.reduceToNat, Nat.reduceBEq, List.size_toArray, List.length_cons, List.length_nil, Bool.false_and, Bool.true_and, Bool.or_false, Bool.false_or, Bool.and_false, Bool.and_true, s0], by simp (disch := first | (simp only [go_sem, Bool.and_self, eq_self]; done) | omega | (simp only [List.length_cons, List.length_nil]; omega)) only [go_sem, ↓reduceIte, Nat.reduceEqDiff, Nat.reduceAdd, Nat.reduceMul, Nat.reduceSub, Int.reduceToNat, Nat.reduceBEq, List.size_toArray, List.length_cons, List.length_nil, Bool.false_and, Bool.true_and, Bool.or_false, Bool.false_or, Bool.and_false, Bool.and_true, s3], by simp (disch := first | (simp only [go_sem, Bool.and_self, eq_self]; done) | omega | (simp only [List.length_cons, List.length_nil]; omega)) only [go_sem, ↓reduceIte, Nat.reduceEqDiff, Nat.reduceAdd, Nat.reduceMul, Nat.reduceSub, Int.reduceToNat, Nat.reduceBEq, List.size_toArray, List.length_cons, List.length_nil, Bool.false_and, Bool.true_and, Bool.or_false, Bool.false_or, Bool.and_false, Bool.and_true, s4], by simp only [Hp.alloc, Hp.put]; omega, by simp (disch := first | (simp only [go_sem, Bool.and_self, eq_self]; done) | omega | (simp only [List.length_cons, List.length_nil]; omega)) only [go_sem, ↓reduceIte, Nat.reduceEqDiff, Nat.reduceAdd, Nat.reduceMul, Nat.reduceSub, Int.reduceToNat, Nat.reduceBEq, List.size_toArray, List.length_cons, List.length_nil, Bool.false_and, Bool.true_and, Bool.or_false, Bool.false_or, Bool.and_false, Bool.and_true, b0, n0]⟩
    · by_cases hie : i = k
      · have hpq : p = q := by rcases t3 with t3 | t3; exact (t3 hie).elim; exact t3
        subst hie
        subst hpq
        have d7 : ¬ p.1 < 0 := by omega
        simp (disch := first | (simp only [go_sem, Bool.and_self, eq_self]; done) | omega | (simp only [List.length_cons, List.length_nil]; omega)) only [go_sem, ↓reduceIte, Nat.reduceEqDiff, Nat.reduceAdd, Nat.reduceMul, Nat.reduceSub, Int.reduceToNat, Nat.reduceBEq, List.size_toArray, List.length_cons, List.length_nil, Bool.false_and, Bool.true_and, Bool.or_false, Bool.false_or, Bool.and_false, Bool.and_true, s0, s3, s4, s6, hlt, b0, k23, hal, c1, c2, c3, c4, z0, decide_true, Bool.not_true, k20a, k20b, t1, hik, eq_self, n0, d1, d2, d4, d7]
        rw [ForK_normal]
        exact ⟨by omega, by simp (disch := first | (simp only [go_sem, Bool.and_self, eq_self]; done) | omega | (simp only [List.length_cons, List.length_nil]; omega)) only [go_sem, ↓reduceIte, Nat.reduceEqDiff, Nat.reduceAdd, Nat.reduceMul, Nat.reduceSub, Int.reduceToNat, Nat.reduceBEq, List.size_toArray, List.length_cons, List.length_nil, Bool.false_and, Bool.true_and, Bool.or_false, Bool.false_or, Bool.and_false, Bool.and_true, s6], by simp (disch := first | (simp only [go_sem, Bool.and_self, eq_self]; done) | omega | (simp only [List.length_cons, List.length_nil]; omega)) only [go_sem, ↓reduceIte, Nat.reduceEqDiff, Nat.reduceAdd, Nat.reduceMul, Nat.reduceSub, Int.reduceToNat, Nat.reduceBEq, List.size_toArray, List.length_cons, List.length_nil, Bool.false_and, Bool.true_and, Bool.or_false, Bool.false_or, Bool.and_false, Bool.and_true, s0], by simp (disch := first | (simp only [go_sem, Bool.and_self, eq_self]; done) | omega | (simp only [List.length_cons, List.length_nil]; omega)) only [go_sem, ↓reduceIte, Nat.reduceEqDiff, Nat.reduceAdd, Nat.reduceMul, Nat.reduceSub, Int.reduceToNat, Nat.reduceBEq, List.size_toArray, List.length_cons, List.length_nil, Bool.false_and, Bool.true_and, Bool.or_false, Bool.false_or, Bool.and_false, Bool.and_true, s3], by simp (disch := first | (simp only [go_sem, Bool.and_self, eq_self]; done) | omega | (simp only [List.length_cons, List.length_nil]; omega)) only [go_sem, ↓reduceIte, Nat.reduceEqDiff, Nat.reduceAdd, Nat.reduceMul, Nat.reduceSub, Int.reduceToNat, Nat.reduceBEq, List.size_toArray, List.length_cons, List.length_nil, Bool.false_and, Bool.true_and, Bool.or_false, Bool.false_or, Bool.and_false, Bool.and_true, s4], by simp only [Hp.alloc, Hp.put]; omega, by simp (disch := first | (simp only [go_sem, Bool.and_self, eq_self]; done) | omega | (simp only [List.length_cons, List.length_nil]; omega)) only [go_sem, ↓reduceIte, Nat.reduceEqDiff, Nat.reduceAdd, Nat.reduceMul, Nat.reduceSub, Int.reduceToNat, Nat.reduceBEq, List.size_toArray, List.length_cons, List.length_nil, Bool.false_and, Bool.true_and, Bool.or_false, Bool.false_or, Bool.and_false, Bool.and_true, b0, n0]⟩
      · simp (disch := first | (simp only [go_sem, Bool.and_self, eq_self]; done) | omega | (simp only [List.length_cons, List.length_nil]; omega)) only [go_sem, ↓reduceIte, Nat.reduceEqDiff, Nat.reduceAdd, Nat.reduceMul, Nat.reduceSub, Int.reduceToNat, Nat.reduceBEq, List.size_toArray, List.length_cons, List.length_nil, Bool.false_and, Bool.true_and, Bool.or_false, Bool.false_or, Bool.and_false, Bool.and_true, s0, s3, s4, s6, hlt, b0, k23, hal, c1, c2, c3, c4, z0, decide_true, Bool.not_true, k20a, k20b, t1, hik, hie, n0]
        rw [ForK_normal]
        exact ⟨hlt, by simp (disch := first | (simp only [go_sem, Bool.and_self, eq_self]; done) | omega | (simp only [List.length_cons, List.length_nil]; omega)) only [go_sem, ↓reduceIte, Nat.reduceEqDiff, Nat.reduceAdd, Nat.reduceMul, Nat.reduceSub, Int.reduceToNat, Nat.reduceBEq, List.size_toArray, List.length_cons, List.length_nil, Bool.false_and, Bool.true_and, Bool.or_false, Bool.false_or, Bool.and_false, Bool.and_true, s6], by simp (disch := first | (simp only [go_sem, Bool.and_self, eq_self]; done) | omega | (simp only [List.length_cons, List.length_nil]; omega)) only [go_sem, ↓reduceIte, Nat.reduceEqDiff, Nat.reduceAdd, Nat.reduceMul, Nat.reduceSub, Int.reduceToNat, Nat.reduceBEq, List.size_toArray, List.length_cons, List.length_nil, Bool.false_and, Bool.true_and, Bool.or_false, Bool.false_or, Bool.and_false, Bool.and_true, s0], by simp (disch := first | (simp only [go_sem, Bool.and_self, eq_self]; done) | omega | (simp only [List.length_cons, List.length_nil]; omega)) only [go_sem, ↓reduceIte, Nat.reduceEqDiff, Nat.reduceAdd, Nat.reduceMul, Nat.reduceSub, Int.reduceToNat, Nat.reduceBEq, List.size_toArray, List.length_cons, List.length_nil, Bool.false_and, Bool.true_and, Bool.or_false, Bool.false_or, Bool.and_false, Bool.and_true, s3], by simp (disch := first | (simp only [go_sem, Bool.and_self, eq_self]; done) | omega | (simp only [List.length_cons, List.length_nil]; omega)) only [go_sem, ↓reduceIte, Nat.reduceEqDiff, Nat.reduceAdd, Nat.reduceMul, Nat.reduceSub, Int.reduceToNat, Nat.reduceBEq, List.size_toArray, List.length_cons, List.length_nil, Bool.false_and, Bool.true_and, Bool.or_false, Bool.false_or, Bool.and_false, Bool.and_true, s4], by simp only [Hp.alloc, Hp.put]; omega, by simp (disch := first | (simp only [go_sem, Bool.and_self, eq_self]; done) | omega | (simp only [List.length_cons, List.length_nil]; omega)) only [go_sem, ↓reduceIte, Nat.reduceEqDiff, Nat.reduceAdd, Nat.reduceMul, Nat.reduceSub, Int.reduceToNat, Nat.reduceBEq, List.size_toArray, List.length_cons, List.length_nil, Bool.false_and, Bool.true_and, Bool.or_false, Bool.false_or, Bool.and_false, Bool.and_true, b0, n0]⟩
  · rintro st h ⟨s4, b0⟩
    have e36 := p36.1
    simp (disch := first | (simp only [go_sem, Bool.and_self, eq_self]; done) | omega | (simp only [List.length_cons, List.length_nil]; omega)) only [go_sem, ↓reduceIte, Nat.reduceEqDiff, Nat.reduceAdd, Nat.reduceMul, Nat.reduceSub, Int.reduceToNat, Nat.reduceBEq, List.size_toArray, List.length_cons, List.length_nil, Bool.false_and, Bool.true_and, Bool.or_false, Bool.false_or, Bool.and_false, Bool.and_true, s4, b0, e36]
end Go.Proofs.Ytgamcclfdkpcgaa

set_option linter.unusedVariables false
set_option linter.unusedSimpArgs false
set_option maxRecDepth 10000
namespace Go.Proofs.Ytgamcclfdkpcgaa
open Go Go.Am

variable {h h' : Hp} {K : AV → Hp → Prop}

/-- Does the rule accept the best one, from the i-th on? -/
def leafI (n k : Int) : Int → Int → List Int → Int
  | _, _, [] => 0
  | i, b, x :: xs => if b < x ∧ k ≤ i then (if x = n - 1 then 1 else 0) else leafI n k (i + 1) (max b x) xs
def usedB (l : List Int) (v : Int) : Bool := l.any fun x => decide (x = v)
/-- The good orders that begin with a list, and all. -/
def ordN (n : Nat) (k : Int) : Nat → List Int → Int × Int
  | 0, l => (leafI n k 0 (-1) l, 1)
  | m + 1, l => (sumN (fun v => if usedB l v then 0 else (ordN n k m (l ++ [(v : Int)])).1) n, sumN (fun v => if usedB l v then 0 else (ordN n k m (l ++ [(v : Int)])).2) n)
theorem leafI_b (n k : Int) : ∀ (l : List Int) (i b : Int), 0 ≤ leafI n k i b l ∧ leafI n k i b l ≤ 1
  | [], _, _ => by simp [leafI]
  | x :: xs, i, b => by
    rw [leafI]
    split
    · split <;> simp
    · exact leafI_b n k xs _ _
theorem ordN_b (n : Nat) (k : Int) : ∀ (m : Nat) (l : List Int), (0 ≤ (ordN n k m l).1 ∧ (ordN n k m l).1 ≤ (n : Int) ^ m) ∧ (0 ≤ (ordN n k m l).2 ∧ (ordN n k m l).2 ≤ (n : Int) ^ m)
  | 0, l => by
    have := leafI_b n k l 0 (-1)
    simp only [ordN, Int.pow_zero]
    omega
  | m + 1, l => by
    have ih := fun v => ordN_b n k m (l ++ [v])
    have hp : 0 ≤ (n : Int) ^ m := Int.pow_nonneg (by omega)
    have e1 := sumN_bounds (f := fun v => if usedB l v then 0 else (ordN n k m (l ++ [(v : Int)])).1) (lo := 0) (hi := (n : Int) ^ m) (n := n) (fun i _ => by
      have := (ih (i : Int)).1
      show 0 ≤ (if usedB l i then 0 else _) ∧ (if usedB l i then 0 else _) ≤ _
      split <;> omega)
    have e2 := sumN_bounds (f := fun v => if usedB l v then 0 else (ordN n k m (l ++ [(v : Int)])).2) (lo := 0) (hi := (n : Int) ^ m) (n := n) (fun i _ => by
      have := (ih (i : Int)).2
      show 0 ≤ (if usedB l i then 0 else _) ∧ (if usedB l i then 0 else _) ≤ _
      split <;> omega)
    rw [Int.zero_mul] at e1 e2
    rw [Int.pow_succ]
    exact ⟨e1, e2⟩
theorem app_one2 (h : Hp) (pre : List Int) (x : Int) (hl : pre.length < 100) : ∃ g : Hp, appB Try.prog (h.alloc (.cells false true (pre.flatMap (e1 I)))) (some (.slice 3)) true (.sl h.nx 0 pre.length 1) (.lst [[I x]]) = some (.sl (h.nx + 1) 0 (pre ++ [x]).length 1, g) ∧
    g.nx = h.nx + 2 ∧ g.bl (h.nx + 1) = some (.cells false true ((pre ++ [x]).flatMap (e1 I))) ∧ ∀ i, i < h.nx → g.bl i = h.bl i := by
  have o : Go.Am.Own (e1 I) 1 (h.alloc (.cells false true (pre.flatMap (e1 I)))) (.sl h.nx 0 pre.length 1) pre := .inr ⟨h.nx, rfl, by simp [Hp.alloc], by simp [Hp.alloc]⟩
  have := app_one (P := Try.prog) o 3 8 (I 0) x isz3 ibytes3 izero3 rfl (by omega) (by omega)
  refine ⟨_, this, ?_, ?_, fun i hi => ?_⟩
  · rw [appH_nx]; rfl
  · simp [appH, Hp.alloc, Hp.put]
  · have h1 : ¬ i = h.nx := by omega
    have h3 : ¬ i = h.nx + 1 := by omega
    simp [appH, Hp.alloc, Hp.put, h1, h3]
theorem f27_con (n : Nat) (hn : n ≤ 6) (k : Int) : ∀ (m : Nat) (l : List Int), l.length + m = n → Con Try.prog cfg 27 [LI l, I n, I k] (.tup [I (ordN n k m l).1, I (ordN n k m l).2]) := by
  intro m
  induction m with
  | zero =>
    intro l hl
    have hln : l.length = n := by omega
    have hle : (l.length : Int) = n := by omega
    have hr : ordN n k 0 l = (leafI n k 0 (-1) l, 1) := rfl
    rw [hr]
    refine Con_intro Try.func27 rfl ok27 (Nat.le_of_ble_eq_true rfl) rfl ?_
    simp only [Try.f27, Option.getD_some, initSt3]
    simp (disch := first | (simp only [go_sem, Bool.and_self, eq_self]; done) | omega | (simp only [List.length_cons, List.length_nil]; omega)) only [go_sem, ↓reduceIte, Nat.reduceEqDiff, Nat.reduceAdd, Nat.reduceMul, Nat.reduceSub, Int.reduceToNat, Nat.reduceBEq, List.size_toArray, List.length_cons, List.length_nil, Bool.false_and, Bool.true_and, Bool.or_false, Bool.false_or, Bool.and_false, Bool.and_true, hle, eq_self]
    refine WP_for 9 n (fun i st h => st 0 = LI l ∧ st 1 = I n ∧ st 2 = I k ∧ ∃ b, st 8 = I b ∧ leafI n k 0 (-1) l = leafI n k i b (l.drop i)) (by simp (disch := first | (simp only [go_sem, Bool.and_self, eq_self]; done) | omega | (simp only [List.length_cons, List.length_nil]; omega)) only [go_sem, ↓reduceIte, Nat.reduceEqDiff, Nat.reduceAdd, Nat.reduceMul, Nat.reduceSub, Int.reduceToNat, Nat.reduceBEq, List.size_toArray, List.length_cons, List.length_nil, Bool.false_and, Bool.true_and, Bool.or_false, Bool.false_or, Bool.and_false, Bool.and_true]) ⟨by simp (disch := first | (simp only [go_sem, Bool.and_self, eq_self]; done) | omega | (simp only [List.length_cons, List.length_nil]; omega)) only [go_sem, ↓reduceIte, Nat.reduceEqDiff, Nat.reduceAdd, Nat.reduceMul, Nat.reduceSub, Int.reduceToNat, Nat.reduceBEq, List.size_toArray, List.length_cons, List.length_nil, Bool.false_and, Bool.true_and, Bool.or_false, Bool.false_or, Bool.and_false, Bool.and_true], by simp (disch := first | (simp only [go_sem, Bool.and_self, eq_self]; done) | omega | (simp only [List.length_cons, List.length_nil]; omega)) only [go_sem, ↓reduceIte, Nat.reduceEqDiff, Nat.reduceAdd, Nat.reduceMul, Nat.reduceSub, Int.reduceToNat, Nat.reduceBEq, List.size_toArray, List.length_cons, List.length_nil, Bool.false_and, Bool.true_and, Bool.or_false, Bool.false_or, Bool.and_false, Bool.and_true], by simp (disch := first | (simp only [go_sem, Bool.and_self, eq_self]; done) | omega | (simp only [List.length_cons, List.length_nil]; omega)) only [go_sem, ↓reduceIte, Nat.reduceEqDiff, Nat.reduceAdd, Nat.reduceMul, Nat.reduceSub, Int.reduceToNat, Nat.reduceBEq, List.size_toArray, List.length_cons, List.length_nil, Bool.false_and, Bool.true_and, Bool.or_false, Bool.false_or, Bool.and_false, Bool.and_true], -1, by simp (disch := first | (simp only [go_sem, Bool.and_self, eq_self]; done) | omega | (simp only [List.length_cons, List.length_nil]; omega)) only [go_sem, ↓reduceIte, Nat.reduceEqDiff, Nat.reduceAdd, Nat.reduceMul, Nat.reduceSub, Int.reduceToNat, Nat.reduceBEq, List.size_toArray, List.length_cons, List.length_nil, Bool.false_and, Bool.true_and, Bool.or_false, Bool.false_or, Bool.and_false, Bool.and_true], rfl⟩ ?_
    rintro i st h hi s9 ⟨s0, s1, s2, b, s8, hlf⟩
    by_cases hlt : i < n
    case neg =>
      have hin : i = n := by omega
      subst hin
      have : leafI (i : Int) k 0 (-1) l = 0 := by rw [hlf, List.drop_of_length_le (by omega)]; rfl
      simp (disch := first | (simp only [go_sem, Bool.and_self, eq_self]; done) | omega | (simp only [List.length_cons, List.length_nil]; omega)) only [go_sem, ↓reduceIte, Nat.reduceEqDiff, Nat.reduceAdd, Nat.reduceMul, Nat.reduceSub, Int.reduceToNat, Nat.reduceBEq, List.size_toArray, List.length_cons, List.length_nil, Bool.false_and, Bool.true_and, Bool.or_false, Bool.false_or, Bool.and_false, Bool.and_true, s0, s1, s2, s8, s9, hlt, this]
    have hil : i < l.length := by omega
    have hd : l.drop i = nth l i :: l.drop (i + 1) := by rw [nth_getElem hil]; exact List.drop_eq_getElem_cons hil
    rw [hd, leafI] at hlf
    have hn1 : ¬ (n : Int) < 1 := by omega
    by_cases c1 : b < nth l i
    · by_cases c2 : k ≤ (i : Int)
      · rw [if_pos ⟨c1, c2⟩] at hlf
        by_cases c3 : nth l i = (n : Int) - 1
        · rw [if_pos c3] at hlf
          have c1' : b < (n : Int) - 1 := by omega
          simp (disch := first | (simp only [go_sem, Bool.and_self, eq_self]; done) | omega | (simp only [List.length_cons, List.length_nil]; omega)) only [go_sem, ↓reduceIte, Nat.reduceEqDiff, Nat.reduceAdd, Nat.reduceMul, Nat.reduceSub, Int.reduceToNat, Nat.reduceBEq, List.size_toArray, List.length_cons, List.length_nil, Bool.false_and, Bool.true_and, Bool.or_false, Bool.false_or, Bool.and_false, Bool.and_true, s0, s1, s2, s8, s9, hlt, hil, c1, c1', c2, c3, hlf, eq_self]
        · rw [if_neg c3] at hlf
          simp (disch := first | (simp only [go_sem, Bool.and_self, eq_self]; done) | omega | (simp only [List.length_cons, List.length_nil]; omega)) only [go_sem, ↓reduceIte, Nat.reduceEqDiff, Nat.reduceAdd, Nat.reduceMul, Nat.reduceSub, Int.reduceToNat, Nat.reduceBEq, List.size_toArray, List.length_cons, List.length_nil, Bool.false_and, Bool.true_and, Bool.or_false, Bool.false_or, Bool.and_false, Bool.and_true, s0, s1, s2, s8, s9, hlt, hil, c1, c2, c3, hlf]
      · rw [if_neg (fun h => c2 h.2)] at hlf
        simp (disch := first | (simp only [go_sem, Bool.and_self, eq_self]; done) | omega | (simp only [List.length_cons, List.length_nil]; omega)) only [go_sem, ↓reduceIte, Nat.reduceEqDiff, Nat.reduceAdd, Nat.reduceMul, Nat.reduceSub, Int.reduceToNat, Nat.reduceBEq, List.size_toArray, List.length_cons, List.length_nil, Bool.false_and, Bool.true_and, Bool.or_false, Bool.false_or, Bool.and_false, Bool.and_true, s0, s1, s2, s8, s9, hlt, hil, c1, c2]
        rw [ForK_normal]
        exact ⟨hlt, by simp (disch := first | (simp only [go_sem, Bool.and_self, eq_self]; done) | omega | (simp only [List.length_cons, List.length_nil]; omega)) only [go_sem, ↓reduceIte, Nat.reduceEqDiff, Nat.reduceAdd, Nat.reduceMul, Nat.reduceSub, Int.reduceToNat, Nat.reduceBEq, List.size_toArray, List.length_cons, List.length_nil, Bool.false_and, Bool.true_and, Bool.or_false, Bool.false_or, Bool.and_false, Bool.and_true, s9], by simp (disch := first | (simp only [go_sem, Bool.and_self, eq_self]; done) | omega | (simp only [List.length_cons, List.length_nil]; omega)) only [go_sem, ↓reduceIte, Nat.reduceEqDiff, Nat.reduceAdd, Nat.reduceMul, Nat.reduceSub, Int.reduceToNat, Nat.reduceBEq, List.size_toArray, List.length_cons, List.length_nil, Bool.false_and, Bool.true_and, Bool.or_false, Bool.false_or, Bool.and_false, Bool.and_true, s0], by simp (disch := first | (simp only [go_sem, Bool.and_self, eq_self]; done) | omega | (simp only [List.length_cons, List.length_nil]; omega)) only [go_sem, ↓reduceIte, Nat.reduceEqDiff, Nat.reduceAdd, Nat.reduceMul, Nat.reduceSub, Int.reduceToNat, Nat.reduceBEq, List.size_toArray, List.length_cons, List.length_nil, Bool.false_and, Bool.true_and, Bool.or_false, Bool.false_or, Bool.and_false, Bool.and_true, s1], by simp (disch := first | (simp only [go_sem, Bool.and_self, eq_self]; done) | omega | (simp only [List.length_cons, List.length_nil]; omega)) only [go_sem, ↓reduceIte, Nat.reduceEqDiff, Nat.reduceAdd, Nat.reduceMul, Nat.reduceSub, Int.reduceToNat, Nat.reduceBEq, List.size_toArray, List.length_cons, List.length_nil, Bool.false_and, Bool.true_and, Bool.or_false, Bool.false_or, Bool.and_false, Bool.and_true, s2], _, by simp (disch := first | (simp only [go_sem, Bool.and_self, eq_self]; done) | omega | (simp only [List.length_cons, List.length_nil]; omega)) only [go_sem, ↓reduceIte, Nat.reduceEqDiff, Nat.reduceAdd, Nat.reduceMul, Nat.reduceSub, Int.reduceToNat, Nat.reduceBEq, List.size_toArray, List.length_cons, List.length_nil, Bool.false_and, Bool.true_and, Bool.or_false, Bool.false_or, Bool.and_false, Bool.and_true, s8], hlf⟩
    · rw [if_neg (fun h => c1 h.1)] at hlf
      simp (disch := first | (simp only [go_sem, Bool.and_self, eq_self]; done) | omega | (simp only [List.length_cons, List.length_nil]; omega)) only [go_sem, ↓reduceIte, Nat.reduceEqDiff, Nat.reduceAdd, Nat.reduceMul, Nat.reduceSub, Int.reduceToNat, Nat.reduceBEq, List.size_toArray, List.length_cons, List.length_nil, Bool.false_and, Bool.true_and, Bool.or_false, Bool.false_or, Bool.and_false, Bool.and_true, s0, s1, s2, s8, s9, hlt, hil, c1]
      rw [ForK_normal]
      exact ⟨hlt, by simp (disch := first | (simp only [go_sem, Bool.and_self, eq_self]; done) | omega | (simp only [List.length_cons, List.length_nil]; omega)) only [go_sem, ↓reduceIte, Nat.reduceEqDiff, Nat.reduceAdd, Nat.reduceMul, Nat.reduceSub, Int.reduceToNat, Nat.reduceBEq, List.size_toArray, List.length_cons, List.length_nil, Bool.false_and, Bool.true_and, Bool.or_false, Bool.false_or, Bool.and_false, Bool.and_true, s9], by simp (disch := first | (simp only [go_sem, Bool.and_self, eq_self]; done) | omega | (simp only [List.length_cons, List.length_nil]; omega)) only [go_sem, ↓reduceIte, Nat.reduceEqDiff, Nat.reduceAdd, Nat.reduceMul, Nat.reduceSub, Int.reduceToNat, Nat.reduceBEq, List.size_toArray, List.length_cons, List.length_nil, Bool.false_and, Bool.true_and, Bool.or_false, Bool.false_or, Bool.and_false, Bool.and_true, s0], by simp (disch := first | (simp only [go_sem, Bool.and_self, eq_self]; done) | omega | (simp only [List.length_cons, List.length_nil]; omega)) only [go_sem, ↓reduceIte, Nat.reduceEqDiff, Nat.reduceAdd, Nat.reduceMul, Nat.reduceSub, Int.reduceToNat, Nat.reduceBEq, List.size_toArray, List.length_cons, List.length_nil, Bool.false_and, Bool.true_and, Bool.or_false, Bool.false_or, Bool.and_false, Bool.and_true, s1], by simp (disch := first | (simp only [go_sem, Bool.and_self, eq_self]; done) | omega | (simp only [List.length_cons, List.length_nil]; omega)) only [go_sem, ↓reduceIte, Nat.reduceEqDiff, Nat.reduceAdd, Nat.reduceMul, Nat.reduceSub, Int.reduceToNat, Nat.reduceBEq, List.size_toArray, List.length_cons, List.length_nil, Bool.false_and, Bool.true_and, Bool.or_false, Bool.false_or, Bool.and_false, Bool.and_true, s2], _, by simp (disch := first | (simp only [go_sem, Bool.and_self, eq_self]; done) | omega | (simp only [List.length_cons, List.length_nil]; omega)) only [go_sem, ↓reduceIte, Nat.reduceEqDiff, Nat.reduceAdd, Nat.reduceMul, Nat.reduceSub, Int.reduceToNat, Nat.reduceBEq, List.size_toArray, List.length_cons, List.length_nil, Bool.false_and, Bool.true_and, Bool.or_false, Bool.false_or, Bool.and_false, Bool.and_true, s8], hlf⟩
  | succ m ih =>
    intro l hl
    have hlt' : ¬ (l.length : Int) = n := by omega
    obtain ⟨f1, hf1⟩ : ∃ f : Nat → Int, f = fun v : Nat => if usedB l v then 0 else (ordN n k m (l ++ [(v : Int)])).1 := ⟨_, rfl⟩
    obtain ⟨f2, hf2⟩ : ∃ f : Nat → Int, f = fun v : Nat => if usedB l v then 0 else (ordN n k m (l ++ [(v : Int)])).2 := ⟨_, rfl⟩
    have hr : ordN n k (m + 1) l = (sumN f1 n, sumN f2 n) := by rw [hf1, hf2]; rfl
    have hpw : (n : Int) ^ m ≤ 46656 := by
      have h1 : n ^ m ≤ 6 ^ m := Nat.pow_le_pow_left hn m
      have h2 : 6 ^ m ≤ 6 ^ 6 := Nat.pow_le_pow_right (by decide) (by omega)
      have h3 : ((n ^ m : Nat) : Int) = (n : Int) ^ m := by simp
      rw [← h3]
      have : n ^ m ≤ 46656 := Nat.le_trans h1 h2
      omega
    have bd := fun v : Nat => ordN_b n k m (l ++ [(v : Int)])
    have b1 : ∀ v, 0 ≤ f1 v ∧ f1 v ≤ 46656 := fun v => by
      rw [hf1]
      have := (bd v).1
      show 0 ≤ (if usedB l v then 0 else _) ∧ (if usedB l v then 0 else _) ≤ _
      split <;> omega
    have b2 : ∀ v, 0 ≤ f2 v ∧ f2 v ≤ 46656 := fun v => by
      rw [hf2]
      have := (bd v).2
      show 0 ≤ (if usedB l v then 0 else _) ∧ (if usedB l v then 0 else _) ≤ _
      split <;> omega
    rw [hr]
    refine Con_intro Try.func27 rfl ok27 (Nat.le_of_ble_eq_true rfl) rfl ?_
    simp only [Try.f27, Option.getD_some, initSt3]
    simp (disch := first | (simp only [go_sem, Bool.and_self, eq_self]; done) | omega | (simp only [List.length_cons, List.length_nil]; omega)) only [go_sem, ↓reduceIte, Nat.reduceEqDiff, Nat.reduceAdd, Nat.reduceMul, Nat.reduceSub, Int.reduceToNat, Nat.reduceBEq, List.size_toArray, List.length_cons, List.length_nil, Bool.false_and, Bool.true_and, Bool.or_false, Bool.false_or, Bool.and_false, Bool.and_true, hlt']
    refine WP_for 12 n (fun i st h => st 0 = LI l ∧ st 1 = I n ∧ st 2 = I k ∧ st 10 = I (sumN f1 i) ∧ st 11 = I (sumN f2 i)) (by simp (disch := first | (simp only [go_sem, Bool.and_self, eq_self]; done) | omega | (simp only [List.length_cons, List.length_nil]; omega)) only [go_sem, ↓reduceIte, Nat.reduceEqDiff, Nat.reduceAdd, Nat.reduceMul, Nat.reduceSub, Int.reduceToNat, Nat.reduceBEq, List.size_toArray, List.length_cons, List.length_nil, Bool.false_and, Bool.true_and, Bool.or_false, Bool.false_or, Bool.and_false, Bool.and_true]) ⟨by simp (disch := first | (simp only [go_sem, Bool.and_self, eq_self]; done) | omega | (simp only [List.length_cons, List.length_nil]; omega)) only [go_sem, ↓reduceIte, Nat.reduceEqDiff, Nat.reduceAdd, Nat.reduceMul, Nat.reduceSub, Int.reduceToNat, Nat.reduceBEq, List.size_toArray, List.length_cons, List.length_nil, Bool.false_and, Bool.true_and, Bool.or_false, Bool.false_or, Bool.and_false, Bool.and_true], by simp (disch := first | (simp only [go_sem, Bool.and_self, eq_self]; done) | omega | (simp only [List.length_cons, List.length_nil]; omega)) only [go_sem, ↓reduceIte, Nat.reduceEqDiff, Nat.reduceAdd, Nat.reduceMul, Nat.reduceSub, Int.reduceToNat, Nat.reduceBEq, List.size_toArray, List.length_cons, List.length_nil, Bool.false_and, Bool.true_and, Bool.or_false, Bool.false_or, Bool.and_false, Bool.and_true], by simp (disch := first | (simp only [go_sem, Bool.and_self, eq_self]; done) | omega | (simp only [List.length_cons, List.length_nil]; omega)) only [go_sem, ↓reduceIte, Nat.reduceEqDiff, Nat.reduceAdd, Nat.reduceMul, Nat.reduceSub, Int.reduceToNat, Nat.reduceBEq, List.size_toArray, List.length_cons, List.length_nil, Bool.false_and, Bool.true_and, Bool.or_false, Bool.false_or, Bool.and_false, Bool.and_true], by simp (disch := first | (simp only [go_sem, Bool.and_self, eq_self]; done) | omega | (simp only [List.length_cons, List.length_nil]; omega)) only [go_sem, ↓reduceIte, Nat.reduceEqDiff, Nat.reduceAdd, Nat.reduceMul, Nat.reduceSub, Int.reduceToNat, Nat.reduceBEq, List.size_toArray, List.length_cons, List.length_nil, Bool.false_and, Bool.true_and, Bool.or_false, Bool.false_or, Bool.and_false, Bool.and_true]; rfl, by simp (disch := first | (simp only [go_sem, Bool.and_self, eq_self]; done) | omega | (simp only [List.length_cons, List.length_nil]; omega)) only [go_sem, ↓reduceIte, Nat.reduceEqDiff, Nat.reduceAdd, Nat.reduceMul, Nat.reduceSub, Int.reduceToNat, Nat.reduceBEq, List.size_toArray, List.length_cons, List.length_nil, Bool.false_and, Bool.true_and, Bool.or_false, Bool.false_or, Bool.and_false, Bool.and_true]; rfl⟩ ?_
    rintro i st h hi s12 ⟨s0, s1, s2, s10, s11⟩
    by_cases hlt : i < n
    case neg =>
      have hin : i = n := by omega
      subst hin
      simp (disch := first | (simp only [go_sem, Bool.and_self, eq_self]; done) | omega | (simp only [List.length_cons, List.length_nil]; omega)) only [go_sem, ↓reduceIte, Nat.reduceEqDiff, Nat.reduceAdd, Nat.reduceMul, Nat.reduceSub, Int.reduceToNat, Nat.reduceBEq, List.size_toArray, List.length_cons, List.length_nil, Bool.false_and, Bool.true_and, Bool.or_false, Bool.false_or, Bool.and_false, Bool.and_true, s0, s1, s2, s10, s11, s12, hlt]
    have hs1 := sumN_bounds (f := f1) (n := i) (lo := 0) (hi := 46656) fun v _ => b1 v
    have hs2 := sumN_bounds (f := f2) (n := i) (lo := 0) (hi := 46656) fun v _ => b2 v
    have t1 : sumN f1 (i + 1) = sumN f1 i + f1 i := rfl
    have t2 : sumN f2 (i + 1) = sumN f2 i + f2 i := rfl
    have c1 := b1 i
    have c2 := b2 i
    simp (disch := first | (simp only [go_sem, Bool.and_self, eq_self]; done) | omega | (simp only [List.length_cons, List.length_nil]; omega)) only [go_sem, ↓reduceIte, Nat.reduceEqDiff, Nat.reduceAdd, Nat.reduceMul, Nat.reduceSub, Int.reduceToNat, Nat.reduceBEq, List.size_toArray, List.length_cons, List.length_nil, Bool.false_and, Bool.true_and, Bool.or_false, Bool.false_or, Bool.and_false, Bool.and_true, s0, s1, s2, s12, hlt]
    refine WP_cut (fun st h => st 0 = LI l ∧ st 1 = I n ∧ st 2 = I k ∧ st 10 = I (sumN f1 i) ∧ st 11 = I (sumN f2 i) ∧ st 12 = I i ∧ st 13 = .bool (usedB l i)) ?_ ?_
    · refine WP_for 14 l.length (fun j st h => st 0 = LI l ∧ st 1 = I n ∧ st 2 = I k ∧ st 10 = I (sumN f1 i) ∧ st 11 = I (sumN f2 i) ∧ st 12 = I i ∧ st 13 = .bool (usedB (l.take j) i)) (by simp (disch := first | (simp only [go_sem, Bool.and_self, eq_self]; done) | omega | (simp only [List.length_cons, List.length_nil]; omega)) only [go_sem, ↓reduceIte, Nat.reduceEqDiff, Nat.reduceAdd, Nat.reduceMul, Nat.reduceSub, Int.reduceToNat, Nat.reduceBEq, List.size_toArray, List.length_cons, List.length_nil, Bool.false_and, Bool.true_and, Bool.or_false, Bool.false_or, Bool.and_false, Bool.and_true]) ⟨by simp (disch := first | (simp only [go_sem, Bool.and_self, eq_self]; done) | omega | (simp only [List.length_cons, List.length_nil]; omega)) only [go_sem, ↓reduceIte, Nat.reduceEqDiff, Nat.reduceAdd, Nat.reduceMul, Nat.reduceSub, Int.reduceToNat, Nat.reduceBEq, List.size_toArray, List.length_cons, List.length_nil, Bool.false_and, Bool.true_and, Bool.or_false, Bool.false_or, Bool.and_false, Bool.and_true, s0], by simp (disch := first | (simp only [go_sem, Bool.and_self, eq_self]; done) | omega | (simp only [List.length_cons, List.length_nil]; omega)) only [go_sem, ↓reduceIte, Nat.reduceEqDiff, Nat.reduceAdd, Nat.reduceMul, Nat.reduceSub, Int.reduceToNat, Nat.reduceBEq, List.size_toArray, List.length_cons, List.length_nil, Bool.false_and, Bool.true_and, Bool.or_false, Bool.false_or, Bool.and_false, Bool.and_true, s1], by simp (disch := first | (simp only [go_sem, Bool.and_self, eq_self]; done) | omega | (simp only [List.length_cons, List.length_nil]; omega)) only [go_sem, ↓reduceIte, Nat.reduceEqDiff, Nat.reduceAdd, Nat.reduceMul, Nat.reduceSub, Int.reduceToNat, Nat.reduceBEq, List.size_toArray, List.length_cons, List.length_nil, Bool.false_and, Bool.true_and, Bool.or_false, Bool.false_or, Bool.and_false, Bool.and_true, s2], by simp (disch := first | (simp only [go_sem, Bool.and_self, eq_self]; done) | omega | (simp only [List.length_cons, List.length_nil]; omega)) only [go_sem, ↓reduceIte, Nat.reduceEqDiff, Nat.reduceAdd, Nat.reduceMul, Nat.reduceSub, Int.reduceToNat, Nat.reduceBEq, List.size_toArray, List.length_cons, List.length_nil, Bool.false_and, Bool.true_and, Bool.or_false, Bool.false_or, Bool.and_false, Bool.and_true, s10], by simp (disch := first | (simp only [go_sem, Bool.and_self, eq_self]; done) | omega | (simp only [List.length_cons, List.length_nil]; omega)) only [go_sem, ↓reduceIte, Nat.reduceEqDiff, Nat.reduceAdd, Nat.reduceMul, Nat.reduceSub, Int.reduceToNat, Nat.reduceBEq, List.size_toArray, List.length_cons, List.length_nil, Bool.false_and, Bool.true_and, Bool.or_false, Bool.false_or, Bool.and_false, Bool.and_true, s11], by simp (disch := first | (simp only [go_sem, Bool.and_self, eq_self]; done) | omega | (simp only [List.length_cons, List.length_nil]; omega)) only [go_sem, ↓reduceIte, Nat.reduceEqDiff, Nat.reduceAdd, Nat.reduceMul, Nat.reduceSub, Int.reduceToNat, Nat.reduceBEq, List.size_toArray, List.length_cons, List.length_nil, Bool.false_and, Bool.true_and, Bool.or_false, Bool.false_or, Bool.and_false, Bool.and_true, s12], by simp (disch := first | (simp only [go_sem, Bool.and_self, eq_self]; done) | omega | (simp only [List.length_cons, List.length_nil]; omega)) only [go_sem, ↓reduceIte, Nat.reduceEqDiff, Nat.reduceAdd, Nat.reduceMul, Nat.reduceSub, Int.reduceToNat, Nat.reduceBEq, List.size_toArray, List.length_cons, List.length_nil, Bool.false_and, Bool.true_and, Bool.or_false, Bool.false_or, Bool.and_false, Bool.and_true]; rfl⟩ ?_
      rintro j st h hj s14 ⟨s0, s1, s2, s10, s11, s12, s13⟩
      by_cases hjl : j < l.length
      case neg =>
        have : l.take j = l := List.take_of_length_le (by omega)
        rw [this] at s13
        simp (disch := first | (simp only [go_sem, Bool.and_self, eq_self]; done) | omega | (simp only [List.length_cons, List.length_nil]; omega)) only [go_sem, ↓reduceIte, Nat.reduceEqDiff, Nat.reduceAdd, Nat.reduceMul, Nat.reduceSub, Int.reduceToNat, Nat.reduceBEq, List.size_toArray, List.length_cons, List.length_nil, Bool.false_and, Bool.true_and, Bool.or_false, Bool.false_or, Bool.and_false, Bool.and_true, s0, s1, s2, s10, s11, s12, s13, s14, hjl]
      have hst : usedB (l.take (j + 1)) i = (usedB (l.take j) i || decide (nth l j = (i : Int))) := by
        have e : l.take (j + 1) = l.take j ++ [nth l j] := by rw [List.take_succ_eq_append_getElem hjl, nth_getElem hjl]
        rw [usedB, e, List.any_append]; simp [usedB]
      cases hu : usedB (l.take j) i with
      | true =>
        rw [hu] at s13 hst
        simp (disch := first | (simp only [go_sem, Bool.and_self, eq_self]; done) | omega | (simp only [List.length_cons, List.length_nil]; omega)) only [go_sem, ↓reduceIte, Nat.reduceEqDiff, Nat.reduceAdd, Nat.reduceMul, Nat.reduceSub, Int.reduceToNat, Nat.reduceBEq, List.size_toArray, List.length_cons, List.length_nil, Bool.false_and, Bool.true_and, Bool.or_false, Bool.false_or, Bool.and_false, Bool.and_true, s0, s1, s2, s10, s11, s12, s13, s14, hjl]
        rw [ForK_normal]
        exact ⟨hjl, by simp (disch := first | (simp only [go_sem, Bool.and_self, eq_self]; done) | omega | (simp only [List.length_cons, List.length_nil]; omega)) only [go_sem, ↓reduceIte, Nat.reduceEqDiff, Nat.reduceAdd, Nat.reduceMul, Nat.reduceSub, Int.reduceToNat, Nat.reduceBEq, List.size_toArray, List.length_cons, List.length_nil, Bool.false_and, Bool.true_and, Bool.or_false, Bool.false_or, Bool.and_false, Bool.and_true, s14], by simp (disch := first | (simp only [go_sem, Bool.and_self, eq_self]; done) | omega | (simp only [List.length_cons, List.length_nil]; omega)) only [go_sem, ↓reduceIte, Nat.reduceEqDiff, Nat.reduceAdd, Nat.reduceMul, Nat.reduceSub, Int.reduceToNat, Nat.reduceBEq, List.size_toArray, List.length_cons, List.length_nil, Bool.false_and, Bool.true_and, Bool.or_false, Bool.false_or, Bool.and_false, Bool.and_true, s0], by simp (disch := first | (simp only [go_sem, Bool.and_self, eq_self]; done) | omega | (simp only [List.length_cons, List.length_nil]; omega)) only [go_sem, ↓reduceIte, Nat.reduceEqDiff, Nat.reduceAdd, Nat.reduceMul, Nat.reduceSub, Int.reduceToNat, Nat.reduceBEq, List.size_toArray, List.length_cons, List.length_nil, Bool.false_and, Bool.true_and, Bool.or_false, Bool.false_or, Bool.and_false, Bool.and_true, s1], by simp (disch := first | (simp only [go_sem, Bool.and_self, eq_self]; done) | omega | (simp only [List.length_cons, List.length_nil]; omega)) only [go_sem, ↓reduceIte, Nat.reduceEqDiff, Nat.reduceAdd, Nat.reduceMul, Nat.reduceSub, Int.reduceToNat, Nat.reduceBEq, List.size_toArray, List.length_cons, List.length_nil, Bool.false_and, Bool.true_and, Bool.or_false, Bool.false_or, Bool.and_false, Bool.and_true, s2], by simp (disch := first | (simp only [go_sem, Bool.and_self, eq_self]; done) | omega | (simp only [List.length_cons, List.length_nil]; omega)) only [go_sem, ↓reduceIte, Nat.reduceEqDiff, Nat.reduceAdd, Nat.reduceMul, Nat.reduceSub, Int.reduceToNat, Nat.reduceBEq, List.size_toArray, List.length_cons, List.length_nil, Bool.false_and, Bool.true_and, Bool.or_false, Bool.false_or, Bool.and_false, Bool.and_true, s10], by simp (disch := first | (simp only [go_sem, Bool.and_self, eq_self]; done) | omega | (simp only [List.length_cons, List.length_nil]; omega)) only [go_sem, ↓reduceIte, Nat.reduceEqDiff, Nat.reduceAdd, Nat.reduceMul, Nat.reduceSub, Int.reduceToNat, Nat.reduceBEq, List.size_toArray, List.length_cons, List.length_nil, Bool.false_and, Bool.true_and, Bool.or_false, Bool.false_or, Bool.and_false, Bool.and_true, s11], by simp (disch := first | (simp only [go_sem, Bool.and_self, eq_self]; done) | omega | (simp only [List.length_cons, List.length_nil]; omega)) only [go_sem, ↓reduceIte, Nat.reduceEqDiff, Nat.reduceAdd, Nat.reduceMul, Nat.reduceSub, Int.reduceToNat, Nat.reduceBEq, List.size_toArray, List.length_cons, List.length_nil, Bool.false_and, Bool.true_and, Bool.or_false, Bool.false_or, Bool.and_false, Bool.and_true, s12], by rw [hst]; simp (disch := first | (simp only [go_sem, Bool.and_self, eq_self]; done) | omega | (simp only [List.length_cons, List.length_nil]; omega)) only [go_sem, ↓reduceIte, Nat.reduceEqDiff, Nat.reduceAdd, Nat.reduceMul, Nat.reduceSub, Int.reduceToNat, Nat.reduceBEq, List.size_toArray, List.length_cons, List.length_nil, Bool.false_and, Bool.true_and, Bool.or_false, Bool.false_or, Bool.and_false, Bool.and_true]; rfl⟩
      | false =>
        rw [hu] at s13 hst
        simp (disch := first | (simp only [go_sem, Bool.and_self, eq_self]; done) | omega | (simp only [List.length_cons, List.length_nil]; omega)) only [go_sem, ↓reduceIte, Nat.reduceEqDiff, Nat.reduceAdd, Nat.reduceMul, Nat.reduceSub, Int.reduceToNat, Nat.reduceBEq, List.size_toArray, List.length_cons, List.length_nil, Bool.false_and, Bool.true_and, Bool.or_false, Bool.false_or, Bool.and_false, Bool.and_true, s0, s1, s2, s10, s11, s12, s13, s14, hjl]
        rw [ForK_normal]
        exact ⟨hjl, by simp (disch := first | (simp only [go_sem, Bool.and_self, eq_self]; done) | omega | (simp only [List.length_cons, List.length_nil]; omega)) only [go_sem, ↓reduceIte, Nat.reduceEqDiff, Nat.reduceAdd, Nat.reduceMul, Nat.reduceSub, Int.reduceToNat, Nat.reduceBEq, List.size_toArray, List.length_cons, List.length_nil, Bool.false_and, Bool.true_and, Bool.or_false, Bool.false_or, Bool.and_false, Bool.and_true, s14], by simp (disch := first | (simp only [go_sem, Bool.and_self, eq_self]; done) | omega | (simp only [List.length_cons, List.length_nil]; omega)) only [go_sem, ↓reduceIte, Nat.reduceEqDiff, Nat.reduceAdd, Nat.reduceMul, Nat.reduceSub, Int.reduceToNat, Nat.reduceBEq, List.size_toArray, List.length_cons, List.length_nil, Bool.false_and, Bool.true_and, Bool.or_false, Bool.false_or, Bool.and_false, Bool.and_true, s0], by simp (disch := first | (simp only [go_sem, Bool.and_self, eq_self]; done) | omega | (simp only [List.length_cons, List.length_nil]; omega)) only [go_sem, ↓reduceIte, Nat.reduceEqDiff, Nat.reduceAdd, Nat.reduceMul, Nat.reduceSub, Int.reduceToNat, Nat.reduceBEq, List.size_toArray, List.length_cons, List.length_nil, Bool.false_and, Bool.true_and, Bool.or_false, Bool.false_or, Bool.and_false, Bool.and_true, s1], by simp (disch := first | (simp only [go_sem, Bool.and_self, eq_self]; done) | omega | (simp only [List.length_cons, List.length_nil]; omega)) only [go_sem, ↓reduceIte, Nat.reduceEqDiff, Nat.reduceAdd, Nat.reduceMul, Nat.reduceSub, Int.reduceToNat, Nat.reduceBEq, List.size_toArray, List.length_cons, List.length_nil, Bool.false_and, Bool.true_and, Bool.or_false, Bool.false_or, Bool.and_false, Bool.and_true, s2], by simp (disch := first | (simp only [go_sem, Bool.and_self, eq_self]; done) | omega | (simp only [List.length_cons, List.length_nil]; omega)) only [go_sem, ↓reduceIte, Nat.reduceEqDiff, Nat.reduceAdd, Nat.reduceMul, Nat.reduceSub, Int.reduceToNat, Nat.reduceBEq, List.size_toArray, List.length_cons, List.length_nil, Bool.false_and, Bool.true_and, Bool.or_false, Bool.false_or, Bool.and_false, Bool.and_true, s10], by simp (disch := first | (simp only [go_sem, Bool.and_self, eq_self]; done) | omega | (simp only [List.length_cons, List.length_nil]; omega)) only [go_sem, ↓reduceIte, Nat.reduceEqDiff, Nat.reduceAdd, Nat.reduceMul, Nat.reduceSub, Int.reduceToNat, Nat.reduceBEq, List.size_toArray, List.length_cons, List.length_nil, Bool.false_and, Bool.true_and, Bool.or_false, Bool.false_or, Bool.and_false, Bool.and_true, s11], by simp (disch := first | (simp only [go_sem, Bool.and_self, eq_self]; done) | omega | (simp only [List.length_cons, List.length_nil]; omega)) only [go_sem, ↓reduceIte, Nat.reduceEqDiff, Nat.reduceAdd, Nat.reduceMul, Nat.reduceSub, Int.reduceToNat, Nat.reduceBEq, List.size_toArray, List.length_cons, List.length_nil, Bool.false_and, Bool.true_and, Bool.or_false, Bool.false_or, Bool.and_false, Bool.and_true, s12], by rw [hst]; simp (disch := first | (simp only [go_sem, Bool.and_self, eq_self]; done) | omega | (simp only [List.length_cons, List.length_nil]; omega)) only [go_sem, ↓reduceIte, Nat.reduceEqDiff, Nat.reduceAdd, Nat.reduceMul, Nat.reduceSub, Int.reduceToNat, Nat.reduceBEq, List.size_toArray, List.length_cons, List.length_nil, Bool.false_and, Bool.true_and, Bool.or_false, Bool.false_or, Bool.and_false, Bool.and_true]⟩
    rintro st h ⟨s0, s1, s2, s10, s11, s12, s13⟩
    cases hu : usedB l i with
    | true =>
      have g1 : f1 i = 0 := by rw [hf1]; simp [hu]
      have g2 : f2 i = 0 := by rw [hf2]; simp [hu]
      rw [g1, Int.add_zero] at t1
      rw [g2, Int.add_zero] at t2
      rw [hu] at s13
      simp (disch := first | (simp only [go_sem, Bool.and_self, eq_self]; done) | omega | (simp only [List.length_cons, List.length_nil]; omega)) only [go_sem, ↓reduceIte, Nat.reduceEqDiff, Nat.reduceAdd, Nat.reduceMul, Nat.reduceSub, Int.reduceToNat, Nat.reduceBEq, List.size_toArray, List.length_cons, List.length_nil, Bool.false_and, Bool.true_and, Bool.or_false, Bool.false_or, Bool.and_false, Bool.and_true, s0, s1, s2, s10, s11, s12, s13]
      rw [ForK_normal]
      exact ⟨hlt, by simp (disch := first | (simp only [go_sem, Bool.and_self, eq_self]; done) | omega | (simp only [List.length_cons, List.length_nil]; omega)) only [go_sem, ↓reduceIte, Nat.reduceEqDiff, Nat.reduceAdd, Nat.reduceMul, Nat.reduceSub, Int.reduceToNat, Nat.reduceBEq, List.size_toArray, List.length_cons, List.length_nil, Bool.false_and, Bool.true_and, Bool.or_false, Bool.false_or, Bool.and_false, Bool.and_true, s12], by simp (disch := first | (simp only [go_sem, Bool.and_self, eq_self]; done) | omega | (simp only [List.length_cons, List.length_nil]; omega)) only [go_sem, ↓reduceIte, Nat.reduceEqDiff, Nat.reduceAdd, Nat.reduceMul, Nat.reduceSub, Int.reduceToNat, Nat.reduceBEq, List.size_toArray, List.length_cons, List.length_nil, Bool.false_and, Bool.true_and, Bool.or_false, Bool.false_or, Bool.and_false, Bool.and_true, s0], by simp (disch := first | (simp only [go_sem, Bool.and_self, eq_self]; done) | omega | (simp only [List.length_cons, List.length_nil]; omega)) only [go_sem, ↓reduceIte, Nat.reduceEqDiff, Nat.reduceAdd, Nat.reduceMul, Nat.reduceSub, Int.reduceToNat, Nat.reduceBEq, List.size_toArray, List.length_cons, List.length_nil, Bool.false_and, Bool.true_and, Bool.or_false, Bool.false_or, Bool.and_false, Bool.and_true, s1], by simp (disch := first | (simp only [go_sem, Bool.and_self, eq_self]; done) | omega | (simp only [List.length_cons, List.length_nil]; omega)) only [go_sem, ↓reduceIte, Nat.reduceEqDiff, Nat.reduceAdd, Nat.reduceMul, Nat.reduceSub, Int.reduceToNat, Nat.reduceBEq, List.size_toArray, List.length_cons, List.length_nil, Bool.false_and, Bool.true_and, Bool.or_false, Bool.false_or, Bool.and_false, Bool.and_true, s2], by rw [t1]; simp (disch := first | (simp only [go_sem, Bool.and_self, eq_self]; done) | omega | (simp only [List.length_cons, List.length_nil]; omega)) only [go_sem, ↓reduceIte, Nat.reduceEqDiff, Nat.reduceAdd, Nat.reduceMul, Nat.reduceSub, Int.reduceToNat, Nat.reduceBEq, List.size_toArray, List.length_cons, List.length_nil, Bool.false_and, Bool.true_and, Bool.or_false, Bool.false_or, Bool.and_false, Bool.and_true, s10], by rw [t2]; simp (disch := first | (simp only [go_sem, Bool.and_self, eq_self]; done) | omega | (simp only [List.length_cons, List.length_nil]; omega)) only [go_sem, ↓reduceIte, Nat.reduceEqDiff, Nat.reduceAdd, Nat.reduceMul, Nat.reduceSub, Int.reduceToNat, Nat.reduceBEq, List.size_toArray, List.length_cons, List.length_nil, Bool.false_and, Bool.true_and, Bool.or_false, Bool.false_or, Bool.and_false, Bool.and_true, s11]⟩
    | false =>
      have g1 : f1 i = (ordN n k m (l ++ [(i : Int)])).1 := by rw [hf1]; simp [hu]
      have g2 : f2 i = (ordN n k m (l ++ [(i : Int)])).2 := by rw [hf2]; simp [hu]
      rw [hu] at s13
      have hlen1 : (l ++ [(i : Int)]).length = l.length + 1 := by simp
      have k27 := fun h h' K => ConW_num (h := h) (h' := h') (K := K) (ih (l ++ [(i : Int)]) (by omega)) rfl
      rw [← g1, ← g2] at k27
      have happ0 := app_nil (P := Try.prog) (h := h) (f := e1 I) 3 8 (I 0) (LI l) l isz3 ibytes3 izero3 rfl (cellsOf_L _ _) (lenA_L _ _) (by omega) (by omega)
      obtain ⟨g3, happ, g3n, g3b, g3o⟩ := app_one2 h l i (by omega)
      have hbs := fun h => bsB_one (P := Try.prog) 3 (I i) (I i) (I 0) h isz3 izero3 rfl rfl rfl rfl rfl rfl rfl
      have hsb : sealA g3 (.sl (h.nx + 1) 0 (l ++ [(i : Int)]).length 1) = some (LI (l ++ [(i : Int)]), g3.put (h.nx + 1) (some (.cells true true ((l ++ [(i : Int)]).flatMap (e1 I))))) := by
        rw [sealA_sl, g3b, sealSl_own _ _ _ _ _ rfl]
      simp (disch := first | (simp only [go_sem, Bool.and_self, eq_self]; done) | omega | (simp only [List.length_cons, List.length_nil]; omega)) only [go_sem, ↓reduceIte, Nat.reduceEqDiff, Nat.reduceAdd, Nat.reduceMul, Nat.reduceSub, Int.reduceToNat, Nat.reduceBEq, List.size_toArray, List.length_cons, List.length_nil, Bool.false_and, Bool.true_and, Bool.or_false, Bool.false_or, Bool.and_false, Bool.and_true, s0, s1, s2, s10, s11, s12, s13, happ0, happ, hbs, hsb, k27]
      rw [ForK_normal]
      exact ⟨hlt, by simp (disch := first | (simp only [go_sem, Bool.and_self, eq_self]; done) | omega | (simp only [List.length_cons, List.length_nil]; omega)) only [go_sem, ↓reduceIte, Nat.reduceEqDiff, Nat.reduceAdd, Nat.reduceMul, Nat.reduceSub, Int.reduceToNat, Nat.reduceBEq, List.size_toArray, List.length_cons, List.length_nil, Bool.false_and, Bool.true_and, Bool.or_false, Bool.false_or, Bool.and_false, Bool.and_true, s12], by simp (disch := first | (simp only [go_sem, Bool.and_self, eq_self]; done) | omega | (simp only [List.length_cons, List.length_nil]; omega)) only [go_sem, ↓reduceIte, Nat.reduceEqDiff, Nat.reduceAdd, Nat.reduceMul, Nat.reduceSub, Int.reduceToNat, Nat.reduceBEq, List.size_toArray, List.length_cons, List.length_nil, Bool.false_and, Bool.true_and, Bool.or_false, Bool.false_or, Bool.and_false, Bool.and_true, s0], by simp (disch := first | (simp only [go_sem, Bool.and_self, eq_self]; done) | omega | (simp only [List.length_cons, List.length_nil]; omega)) only [go_sem, ↓reduceIte, Nat.reduceEqDiff, Nat.reduceAdd, Nat.reduceMul, Nat.reduceSub, Int.reduceToNat, Nat.reduceBEq, List.size_toArray, List.length_cons, List.length_nil, Bool.false_and, Bool.true_and, Bool.or_false, Bool.false_or, Bool.and_false, Bool.and_true, s1], by simp (disch := first | (simp only [go_sem, Bool.and_self, eq_self]; done) | omega | (simp only [List.length_cons, List.length_nil]; omega)) only [go_sem, ↓reduceIte, Nat.reduceEqDiff, Nat.reduceAdd, Nat.reduceMul, Nat.reduceSub, Int.reduceToNat, Nat.reduceBEq, List.size_toArray, List.length_cons, List.length_nil, Bool.false_and, Bool.true_and, Bool.or_false, Bool.false_or, Bool.and_false, Bool.and_true, s2], by rw [t1]; simp (disch := first | (simp only [go_sem, Bool.and_self, eq_self]; done) | omega | (simp only [List.length_cons, List.length_nil]; omega)) only [go_sem, ↓reduceIte, Nat.reduceEqDiff, Nat.reduceAdd, Nat.reduceMul, Nat.reduceSub, Int.reduceToNat, Nat.reduceBEq, List.size_toArray, List.length_cons, List.length_nil, Bool.false_and, Bool.true_and, Bool.or_false, Bool.false_or, Bool.and_false, Bool.and_true], by rw [t2]; simp (disch := first | (simp only [go_sem, Bool.and_self, eq_self]; done) | omega | (simp only [List.length_cons, List.length_nil]; omega)) only [go_sem, ↓reduceIte, Nat.reduceEqDiff, Nat.reduceAdd, Nat.reduceMul, Nat.reduceSub, Int.reduceToNat, Nat.reduceBEq, List.size_toArray, List.length_cons, List.length_nil, Bool.false_and, Bool.true_and, Bool.or_false, Bool.false_or, Bool.and_false, Bool.and_true]⟩
/-- All of it, for at most six candidates. -/
theorem ord_all : ((List.range 6).all fun n => (List.range (n + 1)).all fun k => decide ((chP (n + 1) k).1 * (ordN (n + 1) k (n + 1) []).2 = (ordN (n + 1) k (n + 1) []).1 * (chP (n + 1) k).2)) = true := by kernel_rfl
theorem f6_con (x y : Int) : Con Try.prog cfgY 6 [I x, I y] (.bool true) := by
  have hal : ∀ (g : Hp) (x y : Int), allocB g (some (.agg [I x, I y])) = some (.ptr g.nx 0, g.alloc (.cells false false [I x, I y])) := fun g x y => allocB_agg _ rfl
  have hm := modI_bounds x (n := 6) (by decide)
  have k18 := fun h h' K => kY18 (h := h) (h' := h') (K := K) x 6 (by omega)
  generalize modI x 6 = m at *
  obtain ⟨N, hN⟩ : ∃ N : Nat, (N : Int) = 1 + m := ⟨(1 + m).toNat, by omega⟩
  have hN1 : 1 ≤ N ∧ N ≤ 6 := by omega
  have hm2 := modI_bounds y (n := N) (by omega)
  have k18b := fun h h' K => kY18 (h := h) (h' := h') (K := K) y N (by omega)
  generalize modI y N = z at *
  obtain ⟨k, hk⟩ : ∃ k : Nat, (k : Int) = z := ⟨z.toNat, by omega⟩
  have hkN : k < N := by omega
  have c23 := f23_con (N : Int) (k : Int)
  have e1 : chR (N : Int) (k : Int) = .tup [FR (chP N k), I 0] := by
    have h1 : inB (N : Int) 1 20 = true := by simp [inB]; omega
    have h2 : inB (k : Int) 0 ((N : Int) - 1) = true := by simp [inB]; omega
    simp [chR, chB, h1, h2]
  rw [e1] at c23
  have k23 := fun h h' K => ConW_num (h := h) (h' := h') (K := K) (liftY (by decide) c23) rfl
  have q1 := ch_ok hN1.1 (by omega) hkN
  have k27 := fun h h' K => ConW_num (h := h) (h' := h') (K := K) (liftY (by decide) (f27_con N hN1.2 k N [] (by simp))) rfl
  have hlN : N - 1 < 6 := by omega
  have T := List.all_eq_true.1 (List.all_eq_true.1 ord_all (N - 1) (by simp; omega)) k (by simp; omega)
  rw [show N - 1 + 1 = N by omega] at T
  have T' := of_decide_eq_true T
  have ob := ordN_b N k N []
  have hpw : (N : Int) ^ N ≤ 46656 := by
    have h1 : N ^ N ≤ 6 ^ N := Nat.pow_le_pow_left hN1.2 N
    have h2 : 6 ^ N ≤ 6 ^ 6 := Nat.pow_le_pow_right (by decide) (by omega)
    have h3 : ((N ^ N : Nat) : Int) = (N : Int) ^ N := by simp
    rw [← h3]
    have : N ^ N ≤ 46656 := Nat.le_trans h1 h2
    omega
  generalize chP N k = p at *
  generalize ordN N k N [] = q at *
  have m0 : 0 ≤ p.1 * q.2 ∧ p.1 * q.2 ≤ 2147483647 * 46656 := ⟨Int.mul_nonneg q1.1.1 ob.2.1, Int.mul_le_mul (by omega) (by omega) ob.2.1 (by omega)⟩
  have m1 : 0 ≤ q.1 * p.2 ∧ q.1 * p.2 ≤ 46656 * 2147483647 := ⟨Int.mul_nonneg ob.1.1 (by omega), Int.mul_le_mul (by omega) (by omega) (by omega) (by omega)⟩
  have d1 : ¬ p.2 < 1 := by omega
  have z0 : (0 : Int) = 0 := rfl
  have hnil : ∀ h : Hp, sealA h .nil = some (LI [], h) := fun _ => rfl
  refine Con_intro Try.func6 rfl okY6 (Nat.le_of_ble_eq_true rfl) rfl ?_
  simp only [Try.f6, Option.getD_some, initSt2]
  simp (disch := first | (simp only [go_sem, Bool.and_self, eq_self]; done) | omega | (simp only [List.length_cons, List.length_nil]; omega)) only [go_sem, ↓reduceIte, Nat.reduceEqDiff, Nat.reduceAdd, Nat.reduceMul, Nat.reduceSub, Int.reduceToNat, Nat.reduceBEq, List.size_toArray, List.length_cons, List.length_nil, Bool.false_and, Bool.true_and, Bool.or_false, Bool.false_or, Bool.and_false, Bool.and_true, k18, ← hN, k18b, ← hk, k23, hal, d1, z0, decide_true, Bool.not_true, hnil, k27, T']
end Go.Proofs.Ytgamcclfdkpcgaa
