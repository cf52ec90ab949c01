/-
  rules: what the closure hands to the body of a range over it.
  best: the first rule whose values cannot be improved.
  awake: run as it stands, with the answer of best put in.
  Rules for fractions.
  within, gcd, reduced; the reference's.
  Offers: means as whole numbers over powers of 16; the plain laws.
  Fractions that are equal; what they lie between.
  Candidates.
  Offers: copies, tests, means.
  Offers: the program's means.
  Offers: Prophet and Threshold.
-/
import Derived.Test.YtgamcclfdkpcgaaL2Facts
import Derived.Test.YtgamcclfdkpcgaaAmRange
import Derived.Test.YtgamcclfdkpcgaaAmEnd
import Derived.Test.YtgamcclfdkpcgaaAmFor
set_option linter.unusedVariables false
set_option linter.unusedSimpArgs false
set_option maxRecDepth 10000
namespace Go.Proofs.Ytgamcclfdkpcgaa
open Go Go.Am Go.RowKit

variable {h h' : Hp} {K : AV → Hp → Prop}

theorem hext0 : ExtOk Try.prog cfg := fun _ _ _ h => by cases h
/-- The rule of a number: its bits. -/
def ruleN (n j x : Nat) : List Bool := fillR 6 (fun i => x.testBit i) false j
def uR (n x : Nat) : AV := .agg ((ruleN n n x).flatMap (e1 .bool))
def encR (n x : Nat) : Value := .agg ((ruleN n n x).map Value.bool).toArray
theorem ruleN_len (n j x : Nat) : (ruleN n j x).length = 6 := by simp [ruleN, fillR]
theorem encR_ok (n x : Nat) (w : World) (c : Ctx) : VR w c (uR n x) (encR n x) := by
  refine .agg _ _ (by rw [flat_len]; simp) (fun y hy => ?_) fun j y hj => ?_
  · obtain ⟨b, _, hb⟩ := List.mem_flatMap.1 hy
    simp only [e1, List.mem_singleton] at hb
    rw [hb]; rfl
  · have hlt : j < (ruleN n n x).length := by have := (List.getElem?_eq_some_iff.1 hj).1; rwa [flat_len] at this
    rw [flat_get _ _ _ hlt] at hj
    cases hj
    have : ((ruleN n n x).map Value.bool).toArray.getD j Go.undef = .bool (nth (ruleN n n x) j) := by
      rw [Array.getD_eq_getD_getElem?, List.getElem?_toArray, List.getElem?_map, nth_get hlt]; rfl
    rw [this]; exact .bool _

theorem flat_bools (bs : List Bool) (k : Nat) (hk : k < bs.length) : (bs.flatMap (e1 AV.bool))[k]? = some (.bool (nth bs k)) := flat_get _ _ _ hk

theorem roundIn_any {ro : Option Nat} {m m' : Nat} {P : Program} {l : Nat} {f : FuncId} {tmps : Array Value} {assign body : Code} {w : World} {R : Ending → World → Prop} (h : RoundIn (rF ro) m P l f tmps assign body w R) : RoundIn (rF ro) m' P l f tmps assign body w R :=
  ⟨h.1, fun c cs _ => h.2 c cs (room_wide _)⟩
theorem uR_inv {n x : Nat} {w : World} {c : Ctx} {v : Value} (h : VR w c (uR n x) v) : v = encR n x := by
  unfold uR at h
  generalize hq : (ruleN n n x).flatMap (e1 AV.bool) = q at h
  cases h with
  | agg _ vs hl hcell hv =>
    subst hq
    rw [flat_len] at hl
    unfold encR
    congr 1
    refine Array.ext (by simp [hl]) fun j h1 h2 => ?_
    have hj : j < (ruleN n n x).length := by omega
    have := hv j _ (flat_bools _ _ hj)
    rw [Array.getD_eq_getD_getElem?, Array.getElem?_eq_getElem h1, Option.getD_some] at this
    rw [this.bool_inv]
    simp [nth_getElem hj]

theorem not_run {P : Program} {ρ : Operand → Value} {w : World} {x : Operand} {b : Bool} {d : Option Nat} {t u : TypeId} {p : String} {es : Array Edge} (h : ρ x = .bool b) : (execOp ρ ⟨d, .unOp .not t x, u, p, es, none⟩).run P w = .ok (.value (.bool (!b))) w := by
  unfold execOp
  simp only [h]
  rfl

theorem rules_seq (n : Nat) (hn : n ≤ 6) (m : Nat) (ad : Addr) (w : World) (hb : ad.block < w.heap.size) (hcell : w.cell? ad = some (.int .i64 n)) :
    SeqC Try.prog m 81 #[.pointer (some ad)] (fun x : Nat => #[encR n x]) (fun xs => xs = List.range (2 ^ n)) (fun pre => pre <+: List.range (2 ^ n)) (2 ^ n) w := by
  intro l J Jx W hW hJ hY h0
  have hN6 : 2 ^ n ≤ 64 := by have := Nat.pow_le_pow_right (n := 2) (by decide) hn; omega
  have esh := fun t => shl_one (P := Try.prog) t n (by omega)
  obtain ⟨N, hN⟩ : ∃ N, N = 2 ^ n := ⟨_, rfl⟩
  rw [← hN] at esh hY hN6 ⊢
  have hcW : W.cell? ad = some (.int .i64 n) := (hW.cell (p := ad) hb).trans hcell
  have hbW : ad.block < W.heap.size := Nat.lt_of_lt_of_le hb hW.size
  obtain ⟨c0, hc0⟩ : ∃ c : Ctx, c = { base := W.heap.size, nx := 0, loc := fun _ => .dead, fz := fun k => k = ad.block } := ⟨_, rfl⟩
  have H0 : HR W c0 Hp.empty := by rw [hc0]; exact ctx_nil fun k hk => by rw [hk]; exact hbW
  have S0 : SR 28 W c0 (initSt [.undef, .pp [I n]]) { tmps := #[.func (.yield l) #[] #[], .pointer (some ad)] ++ Array.replicate (28 - 2) Go.undef, defers := [] } := by
    refine args_start (n := 28) ⟨rfl, fun j v hj => ?_⟩ (Nat.le_of_ble_eq_true rfl)
    match j, hj with
    | 0, hj => cases hj; exact .undef _
    | 1, hj =>
      cases hj
      refine .pp _ _ (fun _ => .int .i64 n) (fun _ => by rw [hc0]) (by simp [AV.isCell]) (fun j hj => ?_) (fun j y hy => ?_)
      · have : j = 0 := by simpa using hj
        subst this
        have e0 : ad.add 0 = ad := by unfold Addr.add; simp
        rw [e0]; exact hcW
      · have : j = 0 := by
          have := (List.getElem?_eq_some_iff.1 hy).1
          simpa using this
        subst this
        cases hy; exact .int _ _
  have hbase0 : c0.base = W.heap.size := by rw [hc0]
  refine callsIn_of_wp (fn := Try.f81) (c := Try.f81.body.getD .skip) Try.func81 rfl trivial ?_
  have hy0 : ({ tmps := #[.func (.yield l) #[] #[], .pointer (some ad)] ++ Array.replicate (28 - 2) Go.undef, defers := [] } : Act).tmps[0]? = some (.func (.yield l) #[] #[]) := by simp
  obtain ⟨a0, ha0⟩ : ∃ a0 : Act, { tmps := #[.func (.yield l) #[] #[], .pointer (some ad)] ++ Array.replicate (28 - 2) Go.undef, defers := [] } = a0 := ⟨_, rfl⟩
  rw [ha0] at S0 hy0
  have hgo : (Try.f81.body.getD .skip).wpIn (rF none) m Try.prog (bodyPost Try.prog Try.f81 fun e W' => (∃ v, e = .returned v) ∧ ((∃ xs, xs = List.range N ∧ J xs W') ∨ (∃ pre, pre <+: List.range N ∧ Jx pre W'))) a0 W := ?_
  · rw [← ha0] at hgo; exact hgo
  simp only [Try.f81, Option.getD_some]
  -- before the loop
  refine wpIn_seq (WP.in_ hext0 0 rfl rfl (R := fun x st h => x = .normal ∧ st 1 = .pp [I n] ∧ st 7 = I N ∧ st 8 = I (0 : Nat)) ?_ H0 S0 ?_)
  · simp only [initSt2]
    simp (disch := first | (simp only [go_sem, Bool.and_self, eq_self]; done) | omega | (simp only [List.length_cons, List.length_nil]; omega)) only [go_sem, ↓reduceIte, Nat.reduceEqDiff, Nat.reduceAdd, Nat.reduceMul, Nat.reduceSub, Int.reduceToNat, Nat.reduceBEq, List.size_toArray, List.length_cons, List.length_nil, Bool.false_and, Bool.true_and, Bool.or_false, Bool.false_or, Bool.and_false, Bool.and_true, esh]
    rfl
  rintro x st h ⟨rfl, s1, s7, s8⟩ w1 c1 a1 E1 H1 S1 F1
  refine wpIn_block (wpIn_loop (fun a w' => ∃ ctx h st k, HR w' ctx h ∧ SR 28 w' ctx st a ∧ ctx.base = W.heap.size ∧ st 1 = .pp [I n] ∧ st 7 = I N ∧ st 8 = I (k : Nat) ∧ k ≤ N ∧ J (List.range k) w' ∧ a.tmps[0]? = some (.func (.yield l) #[] #[]))
    (fun a _ => N - (intOf (a.tmps.getD 8 Go.undef)).toNat) ?_ ?_)
  · refine ⟨c1, h, st, 0, H1, S1, E1.base.trans hbase0, s1, s7, s8, Nat.zero_le _, ?_, Eq.trans F1 hy0⟩
    have := E1.below
    rw [hbase0] at this
    exact hJ _ _ _ h0 this
  rintro a w2 ⟨ctx, h, st, k, H, S, hbase, s1, s7, s8, hk, hj, hy⟩
  have hval8 : a.tmps.getD 8 Go.undef = .int .i64 k := by
    have := S.val 8
    rw [s8] at this
    generalize a.tmps.getD 8 Go.undef = v at this
    cases this; rfl
  -- the test
  refine wpIn_seq (WP.in_ hext0 0 rfl rfl (R := fun x st' h' => x = .normal ∧ st' 1 = .pp [I n] ∧ st' 7 = I N ∧ st' 8 = I (k : Nat) ∧ st' 9 = .bool (decide (k < N))) ?_ H S ?_)
  · by_cases hlt : k < N
    · simp (disch := first | (simp only [go_sem, Bool.and_self, eq_self]; done) | omega | (simp only [List.length_cons, List.length_nil]; omega)) only [go_sem, ↓reduceIte, Nat.reduceEqDiff, Nat.reduceAdd, Nat.reduceMul, Nat.reduceSub, Int.reduceToNat, Nat.reduceBEq, List.size_toArray, List.length_cons, List.length_nil, Bool.false_and, Bool.true_and, Bool.or_false, Bool.false_or, Bool.and_false, Bool.and_true, s1, s7, s8, hlt, decide_true]
    · simp (disch := first | (simp only [go_sem, Bool.and_self, eq_self]; done) | omega | (simp only [List.length_cons, List.length_nil]; omega)) only [go_sem, ↓reduceIte, Nat.reduceEqDiff, Nat.reduceAdd, Nat.reduceMul, Nat.reduceSub, Int.reduceToNat, Nat.reduceBEq, List.size_toArray, List.length_cons, List.length_nil, Bool.false_and, Bool.true_and, Bool.or_false, Bool.false_or, Bool.and_false, Bool.and_true, s1, s7, s8, hlt, decide_false]
  rintro x st h3 ⟨rfl, s1, s7, s8, s9⟩ w3 c3 a3 E3 H3 S3 F3
  refine wpIn_seq ?_
  by_cases hlt : k < N
  case neg =>
    have hkN : k = N := by omega
    rw [show decide (k < N) = false by simp [hlt]] at s9
    refine WP.in_ hext0 0 rfl rfl (R := fun x st h => x = .exit 0) ?_ H3 S3 ?_
    · simp (disch := first | (simp only [go_sem, Bool.and_self, eq_self]; done) | omega | (simp only [List.length_cons, List.length_nil]; omega)) only [go_sem, ↓reduceIte, Nat.reduceEqDiff, Nat.reduceAdd, Nat.reduceMul, Nat.reduceSub, Int.reduceToNat, Nat.reduceBEq, List.size_toArray, List.length_cons, List.length_nil, Bool.false_and, Bool.true_and, Bool.or_false, Bool.false_or, Bool.and_false, Bool.and_true, s9]
    rintro x st' h' rfl w4 c4 a4 E4 H4 S4 F4
    refine ⟨S4.defers, _, results_none rfl _ _ _, ⟨_, rfl⟩, .inl ⟨_, rfl, ?_⟩⟩
    have hb1 := (E3.trans E4).below
    rw [hbase] at hb1
    rw [← hkN]
    exact hJ _ _ _ hj hb1
  rw [show decide (k < N) = true by simp [hlt]] at s9
  refine WP.in_ hext0 0 rfl rfl (R := fun x st' h' => x = .normal ∧ st' 1 = .pp [I n] ∧ st' 7 = I N ∧ st' 8 = I (k : Nat)) ?_ H3 S3 ?_
  · simp (disch := first | (simp only [go_sem, Bool.and_self, eq_self]; done) | omega | (simp only [List.length_cons, List.length_nil]; omega)) only [go_sem, ↓reduceIte, Nat.reduceEqDiff, Nat.reduceAdd, Nat.reduceMul, Nat.reduceSub, Int.reduceToNat, Nat.reduceBEq, List.size_toArray, List.length_cons, List.length_nil, Bool.false_and, Bool.true_and, Bool.or_false, Bool.false_or, Bool.and_false, Bool.and_true, s1, s7, s8, s9]
  rintro x st h4 ⟨rfl, s1, s7, s8⟩ w4 c4 a4 E4 H4 S4 F4
  -- the body
  have hbase4 : c4.base = W.heap.size := ((E3.trans E4).base).trans hbase
  have hb4 := (E3.trans E4).below
  rw [hbase] at hb4
  have hj4 : J (List.range k) w4 := hJ _ _ _ hj hb4
  have hy4 : a4.tmps[0]? = some (.func (.yield l) #[] #[]) := Eq.trans F4 (Eq.trans F3 hy)
  clear H S H3 S3 F3 F4 E3 E4 hb4 hj hy
  refine wpIn_seq (wpIn_block ?_)
  refine wpIn_seq (WP.in_ hext0 0 rfl rfl (R := fun x st' h' => x = .normal ∧ st' 1 = .pp [I n] ∧ st' 3 = I k ∧ st' 7 = I N ∧ st' 8 = I k) ?_ H4 S4 ?_)
  · simp (disch := first | (simp only [go_sem, Bool.and_self, eq_self]; done) | omega | (simp only [List.length_cons, List.length_nil]; omega)) only [go_sem, ↓reduceIte, Nat.reduceEqDiff, Nat.reduceAdd, Nat.reduceMul, Nat.reduceSub, Int.reduceToNat, Nat.reduceBEq, List.size_toArray, List.length_cons, List.length_nil, Bool.false_and, Bool.true_and, Bool.or_false, Bool.false_or, Bool.and_false, Bool.and_true, s1, s7, s8]
  rintro x st h5 ⟨rfl, s1, s3, s7, s8⟩ w5 c5 a5 E5 H5 S5 F5
  refine wpIn_seq (WP.in_ hext0 0 rfl rfl (R := fun x st' h' => x = .normal ∧ st' 1 = .pp [I n] ∧ st' 3 = I k ∧ st' 4 = .ptr h5.nx 0 ∧ st' 7 = I N ∧ st' 8 = I k ∧ h5.nx < h'.nx ∧ h'.bl h5.nx = some (.cells false false ((ruleN n 0 k).flatMap (e1 .bool)))) ?_ H5 S5 ?_)
  · simp (disch := first | (simp only [go_sem, Bool.and_self, eq_self]; done) | omega | (simp only [List.length_cons, List.length_nil]; omega)) only [go_sem, ↓reduceIte, Nat.reduceEqDiff, Nat.reduceAdd, Nat.reduceMul, Nat.reduceSub, Int.reduceToNat, Nat.reduceBEq, List.size_toArray, List.length_cons, List.length_nil, Bool.false_and, Bool.true_and, Bool.or_false, Bool.false_or, Bool.and_false, Bool.and_true, s1, s3, s7, s8]
    exact ⟨Nat.lt_succ_self _, rfl⟩
  rintro x st h6 ⟨rfl, s1, s3, s4, s7, s8, hid, hbl⟩ w6 c6 a6 E6 H6 S6 F6
  generalize h5.nx = id at *
  refine wpIn_seq (WP.in_ hext0 0 rfl rfl (R := fun x st' h' => x = .normal ∧ st' 4 = .ptr id 0 ∧ st' 1 = .pp [I n] ∧ st' 7 = I N ∧ st' 8 = I k ∧ h'.bl id = some (.cells false false ((ruleN n n k).flatMap (e1 .bool)))) ?_ H6 S6 ?_)
  · simp (disch := first | (simp only [go_sem, Bool.and_self, eq_self]; done) | omega | (simp only [List.length_cons, List.length_nil]; omega)) only [go_sem, ↓reduceIte, Nat.reduceEqDiff, Nat.reduceAdd, Nat.reduceMul, Nat.reduceSub, Int.reduceToNat, Nat.reduceBEq, List.size_toArray, List.length_cons, List.length_nil, Bool.false_and, Bool.true_and, Bool.or_false, Bool.false_or, Bool.and_false, Bool.and_true, s1, s3, s4, s7, s8]
    refine WP_for 12 n (fun i st h => st 1 = .pp [I n] ∧ st 3 = I k ∧ st 4 = .ptr id 0 ∧ st 7 = I N ∧ st 8 = I k ∧ st 11 = I n ∧ id < h.nx ∧ h.bl id = some (.cells false false ((ruleN n i k).flatMap (e1 .bool)))) (by simp (disch := first | (simp only [go_sem, Bool.and_self, eq_self]; done) | omega | (simp only [List.length_cons, List.length_nil]; omega)) only [go_sem, ↓reduceIte, Nat.reduceEqDiff, Nat.reduceAdd, Nat.reduceMul, Nat.reduceSub, Int.reduceToNat, Nat.reduceBEq, List.size_toArray, List.length_cons, List.length_nil, Bool.false_and, Bool.true_and, Bool.or_false, Bool.false_or, Bool.and_false, Bool.and_true]) ⟨by simp (disch := first | (simp only [go_sem, Bool.and_self, eq_self]; done) | omega | (simp only [List.length_cons, List.length_nil]; omega)) only [go_sem, ↓reduceIte, Nat.reduceEqDiff, Nat.reduceAdd, Nat.reduceMul, Nat.reduceSub, Int.reduceToNat, Nat.reduceBEq, List.size_toArray, List.length_cons, List.length_nil, Bool.false_and, Bool.true_and, Bool.or_false, Bool.false_or, Bool.and_false, Bool.and_true, s1, s3, s4, s7, s8], by simp (disch := first | (simp only [go_sem, Bool.and_self, eq_self]; done) | omega | (simp only [List.length_cons, List.length_nil]; omega)) only [go_sem, ↓reduceIte, Nat.reduceEqDiff, Nat.reduceAdd, Nat.reduceMul, Nat.reduceSub, Int.reduceToNat, Nat.reduceBEq, List.size_toArray, List.length_cons, List.length_nil, Bool.false_and, Bool.true_and, Bool.or_false, Bool.false_or, Bool.and_false, Bool.and_true, s1, s3, s4, s7, s8], by simp (disch := first | (simp only [go_sem, Bool.and_self, eq_self]; done) | omega | (simp only [List.length_cons, List.length_nil]; omega)) only [go_sem, ↓reduceIte, Nat.reduceEqDiff, Nat.reduceAdd, Nat.reduceMul, Nat.reduceSub, Int.reduceToNat, Nat.reduceBEq, List.size_toArray, List.length_cons, List.length_nil, Bool.false_and, Bool.true_and, Bool.or_false, Bool.false_or, Bool.and_false, Bool.and_true, s1, s3, s4, s7, s8], by simp (disch := first | (simp only [go_sem, Bool.and_self, eq_self]; done) | omega | (simp only [List.length_cons, List.length_nil]; omega)) only [go_sem, ↓reduceIte, Nat.reduceEqDiff, Nat.reduceAdd, Nat.reduceMul, Nat.reduceSub, Int.reduceToNat, Nat.reduceBEq, List.size_toArray, List.length_cons, List.length_nil, Bool.false_and, Bool.true_and, Bool.or_false, Bool.false_or, Bool.and_false, Bool.and_true, s1, s3, s4, s7, s8], by simp (disch := first | (simp only [go_sem, Bool.and_self, eq_self]; done) | omega | (simp only [List.length_cons, List.length_nil]; omega)) only [go_sem, ↓reduceIte, Nat.reduceEqDiff, Nat.reduceAdd, Nat.reduceMul, Nat.reduceSub, Int.reduceToNat, Nat.reduceBEq, List.size_toArray, List.length_cons, List.length_nil, Bool.false_and, Bool.true_and, Bool.or_false, Bool.false_or, Bool.and_false, Bool.and_true, s1, s3, s4, s7, s8], by simp (disch := first | (simp only [go_sem, Bool.and_self, eq_self]; done) | omega | (simp only [List.length_cons, List.length_nil]; omega)) only [go_sem, ↓reduceIte, Nat.reduceEqDiff, Nat.reduceAdd, Nat.reduceMul, Nat.reduceSub, Int.reduceToNat, Nat.reduceBEq, List.size_toArray, List.length_cons, List.length_nil, Bool.false_and, Bool.true_and, Bool.or_false, Bool.false_or, Bool.and_false, Bool.and_true, s1, s3, s4, s7, s8], hid, hbl⟩ ?_
    rintro i st h hi s12 ⟨s1, s3, s4, s7, s8, s11, hnx, b0⟩
    by_cases hlt : i < n
    case neg =>
      have hin : i = n := by omega
      subst hin
      simp (disch := first | (simp only [go_sem, Bool.and_self, eq_self]; done) | omega | (simp only [List.length_cons, List.length_nil]; omega)) only [go_sem, ↓reduceIte, Nat.reduceEqDiff, Nat.reduceAdd, Nat.reduceMul, Nat.reduceSub, Int.reduceToNat, Nat.reduceBEq, List.size_toArray, List.length_cons, List.length_nil, Bool.false_and, Bool.true_and, Bool.or_false, Bool.false_or, Bool.and_false, Bool.and_true, s1, s3, s4, s7, s8, s11, s12, hlt]
      exact b0
    have hsh := shr_nat (P := Try.prog) 3 k i (by omega)
    have hl6 : i < (ruleN n i k).length := by rw [ruleN_len]; omega
    have hset : (ruleN n i k).set i (k.testBit i) = ruleN n (i + 1) k := fillR_set (by omega)
    have h6 : (i : Int) < 6 := by omega
    have hsl : k >>> i < 9223372036854775808 := by rw [Nat.shiftRight_eq_div_pow]; exact Nat.lt_of_le_of_lt (Nat.div_le_self _ _) (by omega)
    have hand : binA Try.prog .and 3 (I ((k >>> i : Nat) : Int)) (I 1) = some (I ((if k.testBit i then 1 else 0 : Nat) : Int)) := by
      rw [show ((1 : Int)) = ((1 : Nat) : Int) from rfl, binA_and (P := Try.prog) 3 (k >>> i) 1 hsl (by omega), bit_test]
    cases htb : k.testBit i with
    | true =>
      rw [htb] at hand hset
      have e1' : ((if true = true then 1 else 0 : Nat) : Int) = 1 := rfl
      rw [e1'] at hand
      simp (disch := first | (simp only [go_sem, Bool.and_self, eq_self]; done) | omega | (simp only [List.length_cons, List.length_nil]; omega)) only [go_sem, ↓reduceIte, Nat.reduceEqDiff, Nat.reduceAdd, Nat.reduceMul, Nat.reduceSub, Int.reduceToNat, Nat.reduceBEq, List.size_toArray, List.length_cons, List.length_nil, Bool.false_and, Bool.true_and, Bool.or_false, Bool.false_or, Bool.and_false, Bool.and_true, s1, s3, s4, s7, s8, s11, s12, hlt, b0, hsh, hl6, hand, h6, hset, eq_self, decide_true]
      rw [ForK_normal]
      exact ⟨hlt, by simp (disch := first | (simp only [go_sem, Bool.and_self, eq_self]; done) | omega | (simp only [List.length_cons, List.length_nil]; omega)) only [go_sem, ↓reduceIte, Nat.reduceEqDiff, Nat.reduceAdd, Nat.reduceMul, Nat.reduceSub, Int.reduceToNat, Nat.reduceBEq, List.size_toArray, List.length_cons, List.length_nil, Bool.false_and, Bool.true_and, Bool.or_false, Bool.false_or, Bool.and_false, Bool.and_true, s12], by simp (disch := first | (simp only [go_sem, Bool.and_self, eq_self]; done) | omega | (simp only [List.length_cons, List.length_nil]; omega)) only [go_sem, ↓reduceIte, Nat.reduceEqDiff, Nat.reduceAdd, Nat.reduceMul, Nat.reduceSub, Int.reduceToNat, Nat.reduceBEq, List.size_toArray, List.length_cons, List.length_nil, Bool.false_and, Bool.true_and, Bool.or_false, Bool.false_or, Bool.and_false, Bool.and_true, s1], by simp (disch := first | (simp only [go_sem, Bool.and_self, eq_self]; done) | omega | (simp only [List.length_cons, List.length_nil]; omega)) only [go_sem, ↓reduceIte, Nat.reduceEqDiff, Nat.reduceAdd, Nat.reduceMul, Nat.reduceSub, Int.reduceToNat, Nat.reduceBEq, List.size_toArray, List.length_cons, List.length_nil, Bool.false_and, Bool.true_and, Bool.or_false, Bool.false_or, Bool.and_false, Bool.and_true, s3], by simp (disch := first | (simp only [go_sem, Bool.and_self, eq_self]; done) | omega | (simp only [List.length_cons, List.length_nil]; omega)) only [go_sem, ↓reduceIte, Nat.reduceEqDiff, Nat.reduceAdd, Nat.reduceMul, Nat.reduceSub, Int.reduceToNat, Nat.reduceBEq, List.size_toArray, List.length_cons, List.length_nil, Bool.false_and, Bool.true_and, Bool.or_false, Bool.false_or, Bool.and_false, Bool.and_true, s4], by simp (disch := first | (simp only [go_sem, Bool.and_self, eq_self]; done) | omega | (simp only [List.length_cons, List.length_nil]; omega)) only [go_sem, ↓reduceIte, Nat.reduceEqDiff, Nat.reduceAdd, Nat.reduceMul, Nat.reduceSub, Int.reduceToNat, Nat.reduceBEq, List.size_toArray, List.length_cons, List.length_nil, Bool.false_and, Bool.true_and, Bool.or_false, Bool.false_or, Bool.and_false, Bool.and_true, s7], by simp (disch := first | (simp only [go_sem, Bool.and_self, eq_self]; done) | omega | (simp only [List.length_cons, List.length_nil]; omega)) only [go_sem, ↓reduceIte, Nat.reduceEqDiff, Nat.reduceAdd, Nat.reduceMul, Nat.reduceSub, Int.reduceToNat, Nat.reduceBEq, List.size_toArray, List.length_cons, List.length_nil, Bool.false_and, Bool.true_and, Bool.or_false, Bool.false_or, Bool.and_false, Bool.and_true, s8], by simp (disch := first | (simp only [go_sem, Bool.and_self, eq_self]; done) | omega | (simp only [List.length_cons, List.length_nil]; omega)) only [go_sem, ↓reduceIte, Nat.reduceEqDiff, Nat.reduceAdd, Nat.reduceMul, Nat.reduceSub, Int.reduceToNat, Nat.reduceBEq, List.size_toArray, List.length_cons, List.length_nil, Bool.false_and, Bool.true_and, Bool.or_false, Bool.false_or, Bool.and_false, Bool.and_true, s11], hnx, by simp (disch := first | (simp only [go_sem, Bool.and_self, eq_self]; done) | omega | (simp only [List.length_cons, List.length_nil]; omega)) only [go_sem, ↓reduceIte, Nat.reduceEqDiff, Nat.reduceAdd, Nat.reduceMul, Nat.reduceSub, Int.reduceToNat, Nat.reduceBEq, List.size_toArray, List.length_cons, List.length_nil, Bool.false_and, Bool.true_and, Bool.or_false, Bool.false_or, Bool.and_false, Bool.and_true]⟩
    | false =>
      rw [htb] at hand hset
      have e1' : ((if false = true then 1 else 0 : Nat) : Int) = 0 := rfl
      have e01 : decide ((0 : Int) = 1) = false := by decide
      rw [e1'] at hand
      simp (disch := first | (simp only [go_sem, Bool.and_self, eq_self]; done) | omega | (simp only [List.length_cons, List.length_nil]; omega)) only [go_sem, ↓reduceIte, Nat.reduceEqDiff, Nat.reduceAdd, Nat.reduceMul, Nat.reduceSub, Int.reduceToNat, Nat.reduceBEq, List.size_toArray, List.length_cons, List.length_nil, Bool.false_and, Bool.true_and, Bool.or_false, Bool.false_or, Bool.and_false, Bool.and_true, s1, s3, s4, s7, s8, s11, s12, hlt, b0, hsh, hl6, hand, h6, hset, e01]
      rw [ForK_normal]
      exact ⟨hlt, by simp (disch := first | (simp only [go_sem, Bool.and_self, eq_self]; done) | omega | (simp only [List.length_cons, List.length_nil]; omega)) only [go_sem, ↓reduceIte, Nat.reduceEqDiff, Nat.reduceAdd, Nat.reduceMul, Nat.reduceSub, Int.reduceToNat, Nat.reduceBEq, List.size_toArray, List.length_cons, List.length_nil, Bool.false_and, Bool.true_and, Bool.or_false, Bool.false_or, Bool.and_false, Bool.and_true, s12], by simp (disch := first | (simp only [go_sem, Bool.and_self, eq_self]; done) | omega | (simp only [List.length_cons, List.length_nil]; omega)) only [go_sem, ↓reduceIte, Nat.reduceEqDiff, Nat.reduceAdd, Nat.reduceMul, Nat.reduceSub, Int.reduceToNat, Nat.reduceBEq, List.size_toArray, List.length_cons, List.length_nil, Bool.false_and, Bool.true_and, Bool.or_false, Bool.false_or, Bool.and_false, Bool.and_true, s1], by simp (disch := first | (simp only [go_sem, Bool.and_self, eq_self]; done) | omega | (simp only [List.length_cons, List.length_nil]; omega)) only [go_sem, ↓reduceIte, Nat.reduceEqDiff, Nat.reduceAdd, Nat.reduceMul, Nat.reduceSub, Int.reduceToNat, Nat.reduceBEq, List.size_toArray, List.length_cons, List.length_nil, Bool.false_and, Bool.true_and, Bool.or_false, Bool.false_or, Bool.and_false, Bool.and_true, s3], by simp (disch := first | (simp only [go_sem, Bool.and_self, eq_self]; done) | omega | (simp only [List.length_cons, List.length_nil]; omega)) only [go_sem, ↓reduceIte, Nat.reduceEqDiff, Nat.reduceAdd, Nat.reduceMul, Nat.reduceSub, Int.reduceToNat, Nat.reduceBEq, List.size_toArray, List.length_cons, List.length_nil, Bool.false_and, Bool.true_and, Bool.or_false, Bool.false_or, Bool.and_false, Bool.and_true, s4], by simp (disch := first | (simp only [go_sem, Bool.and_self, eq_self]; done) | omega | (simp only [List.length_cons, List.length_nil]; omega)) only [go_sem, ↓reduceIte, Nat.reduceEqDiff, Nat.reduceAdd, Nat.reduceMul, Nat.reduceSub, Int.reduceToNat, Nat.reduceBEq, List.size_toArray, List.length_cons, List.length_nil, Bool.false_and, Bool.true_and, Bool.or_false, Bool.false_or, Bool.and_false, Bool.and_true, s7], by simp (disch := first | (simp only [go_sem, Bool.and_self, eq_self]; done) | omega | (simp only [List.length_cons, List.length_nil]; omega)) only [go_sem, ↓reduceIte, Nat.reduceEqDiff, Nat.reduceAdd, Nat.reduceMul, Nat.reduceSub, Int.reduceToNat, Nat.reduceBEq, List.size_toArray, List.length_cons, List.length_nil, Bool.false_and, Bool.true_and, Bool.or_false, Bool.false_or, Bool.and_false, Bool.and_true, s8], by simp (disch := first | (simp only [go_sem, Bool.and_self, eq_self]; done) | omega | (simp only [List.length_cons, List.length_nil]; omega)) only [go_sem, ↓reduceIte, Nat.reduceEqDiff, Nat.reduceAdd, Nat.reduceMul, Nat.reduceSub, Int.reduceToNat, Nat.reduceBEq, List.size_toArray, List.length_cons, List.length_nil, Bool.false_and, Bool.true_and, Bool.or_false, Bool.false_or, Bool.and_false, Bool.and_true, s11], hnx, by simp (disch := first | (simp only [go_sem, Bool.and_self, eq_self]; done) | omega | (simp only [List.length_cons, List.length_nil]; omega)) only [go_sem, ↓reduceIte, Nat.reduceEqDiff, Nat.reduceAdd, Nat.reduceMul, Nat.reduceSub, Int.reduceToNat, Nat.reduceBEq, List.size_toArray, List.length_cons, List.length_nil, Bool.false_and, Bool.true_and, Bool.or_false, Bool.false_or, Bool.and_false, Bool.and_true]⟩
  rintro x st h7 ⟨rfl, s4, s1, s7, s8, hbl⟩ w7 c7 a7 E7 H7 S7 F7
  have E47 := (((E5.trans E6).trans E7)).below
  rw [hbase4] at E47
  have hj7 : J (List.range k) w7 := hJ _ _ _ hj4 E47
  have hy7 : a7.tmps[0]? = some (.func (.yield l) #[] #[]) := Eq.trans F7 (Eq.trans F6 (Eq.trans F5 hy4))
  have hb7 : c7.base = W.heap.size := (((E5.trans E6).trans E7).base).trans hbase4
  clear H4 S4 H5 S5 H6 S6 F5 F6 F7 E5 E6 E7 E47 hj4 hy4
  refine wpIn_seq (wpIn_region ?_)
  show wpOpsIn (rF none) m Try.prog _ _ [0, 1, 2, 3] a7 w7
  have want : ∀ (o : Oper) (f : Nat → Option Bool), o.guard = none → Region.wanted o f = true := fun o f h => by simp [Region.wanted, h]
  simp only [wpOpsIn, List.getElem?_toArray, List.getElem?_cons_zero, List.getElem?_cons_succ, want, if_true]
  have e0 : a7.eval (.tmp 0) = .func (.yield l) #[] #[] := by
    show a7.tmps.getD 0 Go.undef = _
    rw [Array.getD_eq_getD_getElem?, hy7]; rfl
  have hmv : (execOp a7.eval ⟨some 23, .move (.tmp 0), 101, "stop.go:68", #[], none⟩).run Try.prog w7 = .ok (.value (.func (.yield l) #[] #[])) w7 := by rw [← e0]; rfl
  refine next_valueIn (fun c h => by cases h) hmv ?_
  have hput : ∀ (a : Act) (t : Nat) (v : Value), a.tmps.size = 28 → t < 28 → (a.put (some t) v).tmps[t]? = some v := fun a t v h1 h2 => by simp [Act.put, h1, h2]
  have y23 := hput a7 23 (.func (.yield l) #[] #[]) S7.size (by decide)
  have S8 := S7.put (d := some 23) (fun t ht => by cases ht; decide) (VR.undef (w := w7) (c := c7) (.func (.yield l) #[] #[]))
  have hload : StepW Try.prog cfg #[] none (.load 82 (.tmp 4)) (updO st (some 23) .undef) h7 (fun v g => v = uR n k ∧ g = h7) := by
    have hld := loadC_agg (.array 6 4) 6 rfl ((ruleN n n k).flatMap (e1 .bool)) 0 (by rw [flat_len, ruleN_len]; exact Nat.le_refl _)
    have htk : (((ruleN n n k).flatMap (e1 AV.bool)).drop 0).take 6 = (ruleN n n k).flatMap (e1 AV.bool) := by
      rw [List.drop_zero, List.take_of_length_le (by rw [flat_len, ruleN_len]; exact Nat.le_refl _)]
    rw [htk] at hld
    simp (disch := first | (simp only [go_sem, Bool.and_self, eq_self]; done) | omega | (simp only [List.length_cons, List.length_nil]; omega)) only [go_sem, ↓reduceIte, Nat.reduceEqDiff, Nat.reduceAdd, Nat.reduceMul, Nat.reduceSub, Int.reduceToNat, Nat.reduceBEq, List.size_toArray, List.length_cons, List.length_nil, Bool.false_and, Bool.true_and, Bool.or_false, Bool.false_or, Bool.and_false, Bool.and_true, s4, hbl, hld]
    exact rfl
  obtain ⟨kk, v, g, e, rfl, hg⟩ := hload
  rw [hg] at e
  have hu : opRead Try.prog (.load 82 (.tmp 4)) (ev (updO st (some 23) .undef)) h7 none = some (uR n k) := by
    unfold stepK at e
    have hp : opPure Try.prog (.load 82 (.tmp 4)) (ev (updO st (some 23) .undef)) = none := rfl
    simp only [hp] at e
    cases hq : opRead Try.prog (.load 82 (.tmp 4)) (ev (updO st (some 23) .undef)) h7 none with
    | some u => rw [hq] at e; simp only [Option.some.injEq, Prod.mk.injEq, and_true] at e; rw [e]
    | none => rw [hq] at e; simp [opNew, opWrite] at e
  obtain ⟨v8, hr8, V8⟩ := opRead_ok (P := Try.prog) (o := ⟨some 24, .load 82 (.tmp 4), 82, "stop.go:68", #[], none⟩) H7 S8.ev hu
  refine next_valueIn (fun c h => by cases h) hr8 ?_
  have S8' := S8.put (d := some 24) (fun t ht => by cases ht; decide) V8
  have y23' : ((a7.put (some 23) (.func (.yield l) #[] #[])).put (some 24) v8).tmps[23]? = some (.func (.yield l) #[] #[]) := Eq.trans (Frz.put (by decide) _) y23
  have y0' : ((a7.put (some 23) (.func (.yield l) #[] #[])).put (some 24) v8).tmps[0]? = some (.func (.yield l) #[] #[]) := Eq.trans (Frz.put (by decide) _) (Eq.trans (Frz.put (by decide) _) hy7)
  generalize ((a7.put (some 23) (.func (.yield l) #[] #[])).put (some 24) v8) = a8 at S8' y23' y0' ⊢
  have e24 : a8.eval (.tmp 24) = encR n k := uR_inv (w := w7) (c := c7) (by have := S8'.val 24; exact this)
  have e23 : a8.eval (.tmp 23) = .func (.yield l) #[] #[] := by
    show a8.tmps.getD 23 Go.undef = _
    rw [Array.getD_eq_getD_getElem?, y23']; rfl
  obtain ⟨fn, tmps, assign, body, hyr, hR⟩ := hY (List.range k) k w7 hj7 (by rw [List.length_range]; exact hlt)
  have hcall := call_yield (P := Try.prog) hyr (ρ := a8.eval) (o := ⟨some 25, .call ⟨.value (.tmp 23), #[.tmp 24], #[82]⟩, 4, "stop.go:68", #[⟨0, .data⟩, ⟨1, .data⟩], none⟩) rfl e23 (by simp [e24])
  refine ⟨fun _ _ => trivial, ?_⟩
  rw [Oper.semAt_eq _ _ _ (fun c h => by cases h), hcall, Oper.uponIn_round]
  refine ⟨fun h => (by cases h), roundIn_any (hR.mono ?_)⟩
  rintro e W9 (⟨rfl, hj9, hB9⟩ | ⟨rfl, hjx⟩)
  · have E9 := Ext.grow H7 hB9 c7.fz (fun _ h => h) (fun _ h => .inl h)
    have H9 := H7.grow hB9 c7.fz (fun _ h => h) (fun _ h => .inl h)
    have S9 := (S8'.mono E9).put (d := some 25) (fun t ht => by cases ht; decide) (VR.bool (w := W9) true)
    have y25 := hput a8 25 (.bool true) S8'.size (by decide)
    have e25 : (a8.put (some 25) (.bool true)).eval (.tmp 25) = .bool true := by
      show (a8.put (some 25) (.bool true)).tmps.getD 25 Go.undef = _
      rw [Array.getD_eq_getD_getElem?, y25]; rfl
    refine next_valueIn (fun c h => by cases h) (x := .bool false) (w' := W9) (not_run e25) ?_
    have S10 := S9.put (d := some 26) (fun t ht => by cases ht; decide) (VR.bool (w := W9) false)
    have e26 := (S10.ev (.tmp 26)).bool_inv
    refine wpIn_cond_false e26 (wpIn_skip ?_)
    have t1 : (updO (updO (updO (updO st (some 23) .undef) (some 24) (uR n k)) (some 25) (.bool true)) (some 26) (.bool false)) 1 = .pp [I n] := s1
    have t7 : (updO (updO (updO (updO st (some 23) .undef) (some 24) (uR n k)) (some 25) (.bool true)) (some 26) (.bool false)) 7 = I N := s7
    have t8 : (updO (updO (updO (updO st (some 23) .undef) (some 24) (uR n k)) (some 25) (.bool true)) (some 26) (.bool false)) 8 = I k := s8
    generalize (updO (updO (updO (updO st (some 23) .undef) (some 24) (uR n k)) (some 25) (.bool true)) (some 26) (.bool false)) = st9 at S10 t1 t7 t8
    generalize hae : (a8.put (some 25) (.bool true)).put (some 26) (.bool false) = a9 at S10 ⊢
    have y0 : a9.tmps[0]? = some (.func (.yield l) #[] #[]) := by
      rw [← hae]
      exact Eq.trans (Frz.put (by decide) _) (Eq.trans (Frz.put (by decide) _) y0')
    refine WP.in_ hext0 0 rfl rfl (R := fun x st' h' => x = .normal ∧ st' 1 = .pp [I n] ∧ st' 7 = I N ∧ st' 8 = I ((k + 1 : Nat) : Int)) ?_ H9 S10 ?_
    · simp (disch := first | (simp only [go_sem, Bool.and_self, eq_self]; done) | omega | (simp only [List.length_cons, List.length_nil]; omega)) only [go_sem, ↓reduceIte, Nat.reduceEqDiff, Nat.reduceAdd, Nat.reduceMul, Nat.reduceSub, Int.reduceToNat, Nat.reduceBEq, List.size_toArray, List.length_cons, List.length_nil, Bool.false_and, Bool.true_and, Bool.or_false, Bool.false_or, Bool.and_false, Bool.and_true, t1, t7, t8]
      rfl
    rintro x st h9 ⟨rfl, s1, s7, s8⟩ w10 c10 a10 E10 H10 S11 F10
    have hval : a10.tmps.getD 8 Go.undef = .int .i64 ((k + 1 : Nat) : Int) := by
      have := S11.val 8
      rw [s8] at this
      generalize a10.tmps.getD 8 Go.undef = v at this
      cases this; rfl
    have hb10 : c10.base = W.heap.size := E10.base.trans hb7
    have hj10 : J (List.range (k + 1)) w10 := by
      rw [List.range_succ]
      have := E10.below
      rw [show ({ c7 with fz := c7.fz } : Ctx).base = W.heap.size from hb7] at this
      exact hJ _ _ _ hj9 this
    refine ⟨⟨c10, h9, st, k + 1, H10, S11, hb10, s1, s7, s8, by omega, hj10, Eq.trans F10 y0⟩, ?_⟩
    show N - (intOf (a10.tmps.getD 8 Go.undef)).toNat < N - (intOf (a.tmps.getD 8 Go.undef)).toNat
    rw [hval, hval8]
    simp only [intOf]
    omega
  · have y25 := hput a8 25 (.bool false) S8'.size (by decide)
    have e25 : (a8.put (some 25) (.bool false)).eval (.tmp 25) = .bool false := by
      show (a8.put (some 25) (.bool false)).tmps.getD 25 Go.undef = _
      rw [Array.getD_eq_getD_getElem?, y25]; rfl
    refine next_valueIn (fun c h => by cases h) (x := .bool true) (w' := W9) (not_run e25) ?_
    have hs9 : (a8.put (some 25) (.bool false)).tmps.size = 28 := by simp [Act.put, S8'.size]
    have y26 := hput (a8.put (some 25) (.bool false)) 26 (.bool true) hs9 (by decide)
    refine wpIn_cond_true (c := .tmp 26) (by
      show ((a8.put (some 25) (.bool false)).put (some 26) (.bool true)).tmps.getD 26 Go.undef = _
      rw [Array.getD_eq_getD_getElem?, y26]; rfl) (wpIn_ret ?_)
    refine ⟨S8'.defers, _, results_none rfl _ _ _, ⟨_, rfl⟩, .inr ⟨List.range k ++ [k], ?_, hjx⟩⟩
    rw [← List.range_succ, hN]
    have : List.range (2 ^ n) = List.range (k + 1) ++ (List.range (2 ^ n - (k + 1))).map (fun i => k + 1 + i) := by
      rw [← List.range_add, Nat.add_sub_cancel' (by omega)]
    rw [this]
    exact List.prefix_append _ _
end Go.Proofs.Ytgamcclfdkpcgaa

set_option linter.unusedVariables false
set_option linter.unusedSimpArgs false
set_option maxRecDepth 10000
namespace Go.Proofs.Ytgamcclfdkpcgaa
open Go Go.Am Go.RowKit

variable {h h' : Hp} {K : AV → Hp → Prop}

theorem f68_con (n : Int) : Con Try.prog cfg 68 [I n] (.fn 81 [.pp [I n]]) := by
  refine Con_intro Try.func68 rfl ok68 (Nat.le_of_ble_eq_true rfl) rfl ?_
  simp only [Try.f68, Option.getD_some, initSt1]
  simp (disch := first | (simp only [go_sem, Bool.and_self, eq_self]; done) | omega | (simp only [List.length_cons, List.length_nil]; omega)) only [go_sem, ↓reduceIte, Nat.reduceEqDiff, Nat.reduceAdd, Nat.reduceMul, Nat.reduceSub, Int.reduceToNat, Nat.reduceBEq, List.size_toArray, List.length_cons, List.length_nil, Bool.false_and, Bool.true_and, Bool.or_false, Bool.false_or, Bool.and_false, Bool.and_true]
  have hb : (Hp.empty.alloc (.cells false false [I n])).bl 0 = some (.cells false false [I n]) := rfl
  have hs := sealA_fn1 (h := Hp.empty.alloc (.cells false false [I n])) 81 0 false false (I n) rfl hb
  show ((exportV Try.prog false false 94 (Hp.empty.alloc (.cells false false [I n])) [] (.fn 81 [.ptr 0 0])).bind fun r => if isTup r.1 then none else some r.1) = _
  rw [exportV_plain, hs]; rfl

/-- What 'best' needs to know of a chain with n states. -/
structure Ways (c : AV) (n : Nat) (snd bst : Nat → Bool) (eq : Nat → AV) (val : Nat → List (Int × Int)) : Prop where
  sound : ∀ x, Con Try.prog cfg 54 [c, uR n x] (.bool (snd x))
  eqs : ∀ x, snd x = true → Con Try.prog cfg 56 [c, uR n x] (eq x)
  pureE : ∀ x, snd x = true → ∃ cs, eq x = .agg cs ∧ AV.pureL cs = true
  sol : ∀ x, snd x = true → Con Try.prog cfg 55 [eq x, I n] (LP (val x))
  best : ∀ x, snd x = true → Con Try.prog cfg 69 [c, LP (val x)] (.bool (bst x))
/-- The first of some numbers that is taken. -/
def firstOf (snd bst : Nat → Bool) (val : Nat → List (Int × Int)) (xs : List Nat) : List (Int × Int) := match xs.find? fun x => snd x && bst x with | some x => val x | none => []

theorem uR_pure (n x : Nat) : (uR n x).isPure = true := by
  show AV.pureL _ = true
  refine pureL_all fun y hy => ?_
  obtain ⟨b, _, hb⟩ := List.mem_flatMap.1 hy
  simp only [e1, List.mem_singleton] at hb
  rw [hb]; rfl
theorem fn_inv {g : FuncId} {n : Int} {w : World} {c : Ctx} {v : Value} (h : VR w c (.fn g [.pp [I n]]) v) : ∃ ad, v = .func (.func g) #[] #[.pointer (some ad)] ∧ w.cell? ad = some (.int .i64 n) ∧ ad.block < w.heap.size := by
  generalize hq : ([.pp [I n]] : List AV) = q at h
  cases h with
  | fn _ _ vs hl hv =>
    subst hq
    have h0 := hv 0 _ rfl
    have hs : vs.size = 1 := hl.symm
    have hvs : vs = #[vs.getD 0 Go.undef] := by
      refine Array.ext (by simp [hs]) fun j h1 h2 => ?_
      have : j = 0 := by omega
      subst this
      show vs[0] = vs.getD 0 Go.undef
      rw [Array.getD_eq_getD_getElem?, Array.getElem?_eq_getElem h1]; rfl
    generalize vs.getD 0 Go.undef = y at h0 hvs
    subst hvs
    generalize hr : ([I n] : List AV) = r at h0
    cases h0 with
    | pp _ ad cv hfz hcell hc hv2 =>
      subst hr
      have h1 := hc 0 (Nat.lt_succ_self 0)
      have h2 := hv2 0 _ rfl
      generalize cv 0 = z at h1 h2
      cases h2
      have e0 : ad.add 0 = ad := by unfold Addr.add; simp
      rw [e0] at h1
      refine ⟨ad, rfl, h1, ?_⟩
      unfold World.cell? at h1
      cases hb : w.heap[ad.block]? with
      | none => rw [hb] at h1; cases h1
      | some o => exact (Array.getElem?_eq_some_iff.1 hb).1
theorem res_cell {h : Hp} {st : St} {v : AV} (s2 : st 2 = .ptr 1 0) (hb : h.bl 1 = some (.cells false false [v])) : resR Try.prog h st Try.f49.results.toList = some v := by
  have e : Try.f49.results.toList = [.cell 2 28] := rfl
  have hr : rd h none 1 = some [v] := by simp [rd, hb, lims_none]
  rw [e]
  simp [resR, resL, resA, s2, hr, loadA_B, und28, isz28, loadB, aggD]
theorem enters81 (args : Array Value) (w : World) : (callFunc 81 args).run Try.prog w = .ok (.enter 81 args) w := Go.Proofs.enters_of Try.func81 (by kernel_rfl) rfl args w
theorem best_pure (nx : List (List Int)) (pay cost : List Int) (hn : nx.length ≤ 6) {snd bst : Nat → Bool} {eq : Nat → AV} {val : Nat → List (Int × Int)} (Y : Ways (.agg [LLI nx, LI pay, LI cost]) nx.length snd bst eq val) :
    PureOk Try.prog 49 [.agg [LLI nx, LI pay, LI cost]] (LP (firstOf snd bst val (List.range (2 ^ nx.length)))) := by
  refine ⟨⟨_, Try.func49, rfl, by rfl⟩, fun w fz vs hf ha R hR => ?_⟩
  have H0 := ctx_nil (w := w) hf
  obtain ⟨c0, hc0⟩ : ∃ c : Ctx, c = { base := w.heap.size, nx := 0, loc := fun _ => .dead, fz := fz } := ⟨_, rfl⟩
  rw [← hc0] at H0
  have ha' : ArgsR w c0 [.agg [LLI nx, LI pay, LI cost]] vs := by
    refine ⟨ha.1, fun j u hu => ?_⟩
    rw [hc0]; exact VR.base_any (ha.2 j u hu)
  have S0 := args_start ha' (n := 25) (Nat.le_of_ble_eq_true rfl)
  refine (callsIn_wide (n := 5)).1 ?_
  show CallsIn (rF none) 5 Try.prog 49 vs w R
  refine callsIn_of_wp_marks (fn := Try.f49) (c := Try.f49.body.getD .skip) Try.func49 rfl trivial ?_
  have hbase0 : c0.base = w.heap.size := by rw [hc0]
  have hfz0 : c0.fz = fz := by rw [hc0]
  have hntm : Try.f49.ntmps = 25 := rfl
  rw [hntm]
  obtain ⟨a0, ha0⟩ : ∃ a0 : Act, { tmps := vs ++ Array.replicate (25 - vs.size) Go.undef, defers := [] } = a0 := ⟨_, rfl⟩
  rw [ha0] at S0 ⊢
  have hal : ∀ g : Hp, allocB g (some (.agg [LLI nx, LI pay, LI cost])) = some (.ptr g.nx 0, g.alloc (.cells false false [LLI nx, LI pay, LI cost])) := fun g => allocB_agg _ rfl
  generalize hQ : bodyPostM (rF none) 5 Try.prog Try.f49 R = Q
  simp only [Try.f49, Option.getD_some]
  refine wpIn_seq (WP.in_ hext0 25 rfl rfl (R := fun x st h => x = .normal ∧ st 1 = .ptr 0 0 ∧ st 2 = .ptr 1 0 ∧ h = (Hp.empty.alloc (.cells false false [LLI nx, LI pay, LI cost])).alloc (.cells false false [.nil])) ?_ H0 S0 ?_)
  · simp only [initSt1]
    simp (disch := first | (simp only [go_sem, Bool.and_self, eq_self]; done) | omega | (simp only [List.length_cons, List.length_nil]; omega)) only [go_sem, ↓reduceIte, Nat.reduceEqDiff, Nat.reduceAdd, Nat.reduceMul, Nat.reduceSub, Int.reduceToNat, Nat.reduceBEq, List.size_toArray, List.length_cons, List.length_nil, Bool.false_and, Bool.true_and, Bool.or_false, Bool.false_or, Bool.and_false, Bool.and_true, hal]
  rintro x st h ⟨rfl, s1, s2, hh⟩ w1 c1 a1 E1 H1 S1 F1
  obtain ⟨n, hnn⟩ : ∃ n, n = nx.length := ⟨_, rfl⟩
  refine wpIn_seq (WP.in_ hext0 25 rfl rfl (R := fun x st h => x = .normal ∧ st 1 = .ptr 0 0 ∧ st 2 = .ptr 1 0 ∧ st 3 = .ptr 2 0 ∧ h.nx = 3 ∧ h.bl 0 = some (.cells false false [LLI nx, LI pay, LI cost]) ∧ h.bl 1 = some (.cells false false [.nil]) ∧ h.bl 2 = some (.cells false false [I n])) ?_ H1 S1 ?_)
  · rw [hh, hnn]
    simp (disch := first | (simp only [go_sem, Bool.and_self, eq_self]; done) | omega | (simp only [List.length_cons, List.length_nil]; omega)) only [go_sem, ↓reduceIte, Nat.reduceEqDiff, Nat.reduceAdd, Nat.reduceMul, Nat.reduceSub, Int.reduceToNat, Nat.reduceBEq, List.size_toArray, List.length_cons, List.length_nil, Bool.false_and, Bool.true_and, Bool.or_false, Bool.false_or, Bool.and_false, Bool.and_true, s1, s2]
  rintro x st h2 ⟨rfl, s1, s2, s3, hnx, b0, b1, b2⟩ w2 c2 a2 E2 H2 S2 F2
  have k68 := fun h h' K => ConW_any (h := h) (h' := h') (K := K) (f68_con n) rfl
  have hi68 : ∀ h : Hp, importR h (.fn 81 [.pp [I n]]) = (.fn 81 [.pp [I n]], h) := fun _ => rfl
  refine wpIn_seq (wpIn_seq (WP.in_ hext0 25 rfl rfl (R := fun x st h => x = .normal ∧ st 1 = .ptr 0 0 ∧ st 2 = .ptr 1 0 ∧ st 3 = .ptr 2 0 ∧ st 10 = .fn 81 [.pp [I n]] ∧ h = h2) ?_ H2 S2 ?_))
  · simp (disch := first | (simp only [go_sem, Bool.and_self, eq_self]; done) | omega | (simp only [List.length_cons, List.length_nil]; omega)) only [go_sem, ↓reduceIte, Nat.reduceEqDiff, Nat.reduceAdd, Nat.reduceMul, Nat.reduceSub, Int.reduceToNat, Nat.reduceBEq, List.size_toArray, List.length_cons, List.length_nil, Bool.false_and, Bool.true_and, Bool.or_false, Bool.false_or, Bool.and_false, Bool.and_true, s1, s2, s3, b2, k68, hi68]
  rintro x st h3 ⟨rfl, s1, s2, s3, s10, rfl⟩ w3 c3 a3 E3 H3 S3 F3
  obtain ⟨ad, e10, hcell, hadb⟩ := fn_inv (by have := S3.ev (.tmp 10); rwa [show ev st (.tmp 10) = st 10 from rfl, s10] at this)
  refine wpIn_block ?_
  refine range_law (m := 4) e10 (enters81) (rules_seq n (by omega) 4 ad w3 hadb hcell) (fun _ => rfl)
    (fun xs => ∀ x ∈ xs, (snd x && bst x) = false)
    (fun xs => LeftR w3 c3 (fun h => ∃ pre y, xs = pre ++ [y] ∧ (∀ x ∈ pre, (snd x && bst x) = false) ∧ (snd y && bst y) = true ∧ h.bl 1 = some (.cells false false [LP (val y)])))
    (fun x hx => by cases hx) (fun xs W o o' l hle hl ho ho' q => q.turn H3 hle hl ho ho') ?round ?done ?stop
  case round =>
    refine round_WP hext0 25 H3 S3 (by decide) rfl rfl rfl (by kernel_rfl) (encR_ok n) _ _ fun pre x hpre hlen => ?_
    obtain ⟨f0, f1, f2, f3, f4, f5, hru⟩ : ∃ f0 f1 f2 f3 f4 f5, uR n x = .agg [.bool f0, .bool f1, .bool f2, .bool f3, .bool f4, .bool f5] := by
      have hl := ruleN_len n n x
      unfold uR
      match ruleN n n x, hl with
      | [a, b, c, d, e, f], _ => exact ⟨a, b, c, d, e, f, rfl⟩
    have k54 := fun h h' K => ConW_num (h := h) (h' := h') (K := K) (Y.sound x) rfl
    rw [← hnn, hru] at k54
    rw [hru]
    have hst6 : ∀ (h : Hp) (id : Nat), storeC h id 0 6 (some (.cells false false [.bool false, .bool false, .bool false, .bool false, .bool false, .bool false])) [.bool f0, .bool f1, .bool f2, .bool f3, .bool f4, .bool f5] = some (.skp, h.put id (some (.cells false false [.bool f0, .bool f1, .bool f2, .bool f3, .bool f4, .bool f5]))) := fun h id => by simp [storeC, setL, AV.isCell]
    have hld6 : loadC (some (.array 6 4)) (some 6) (some ([.bool f0, .bool f1, .bool f2, .bool f3, .bool f4, .bool f5], 0)) = some (.agg [.bool f0, .bool f1, .bool f2, .bool f3, .bool f4, .bool f5]) := loadC_agg _ 6 rfl _ 0 (by simp)
    have vA1 : viewSt h3 st 1 = .pp [LLI nx, LI pay, LI cost] := by
      simp only [viewSt, s1, viewV, b0, AV.pureL, pure_L, Bool.and_self, if_true, List.drop_zero]
    have vA3 : viewSt h3 st 3 = .pp [I n] := by
      simp only [viewSt, s3, viewV, b2]; rfl
    cases hs : snd x with
    | false =>
      left
      simp (disch := first | (simp only [go_sem, Bool.and_self, eq_self]; done) | omega | (simp only [List.length_cons, List.length_nil]; omega)) only [go_sem, ↓reduceIte, Nat.reduceEqDiff, Nat.reduceAdd, Nat.reduceMul, Nat.reduceSub, Int.reduceToNat, Nat.reduceBEq, List.size_toArray, List.length_cons, List.length_nil, Bool.false_and, Bool.true_and, Bool.or_false, Bool.false_or, Bool.and_false, Bool.and_true, vA1, vA3, hst6, hld6, k54, hs]
      intro y hy
      rcases List.mem_append.1 hy with hy | hy
      · exact hpre y hy
      · rw [List.mem_singleton.1 hy, hs]; rfl
    | true =>
    obtain ⟨cs, heq, hpe⟩ := Y.pureE x hs
    have c56 := Y.eqs x hs
    have c55 := Y.sol x hs
    rw [← hnn, hru] at c56
    rw [← hnn] at c55
    rw [heq] at c56 c55
    have k56 : ∀ (h : Hp) K, ConW Try.prog cfg 56 h (some ([.agg [LLI nx, LI pay, LI cost], .agg [.bool f0, .bool f1, .bool f2, .bool f3, .bool f4, .bool f5]], h)) K = K (.agg cs) h := fun h K => by
      cases hsc : (AV.agg cs).isScalar with
      | true => exact ConW_num c56 hsc
      | false => exact ConW_any c56 hsc
    have k55 := fun h h' K => ConW_any (h := h) (h' := h') (K := K) c55 rfl
    have hi55 : ∀ (h : Hp) (l : List (Int × Int)), importR h (LP l) = (LP l, h) := fun _ _ => rfl
    have k69 := fun h h' K => ConW_num (h := h) (h' := h') (K := K) (Y.best x hs) rfl
    have hsE : ∀ h : Hp, sealA h (.agg cs) = some (.agg cs, h) := fun h => sealA_agg cs hpe
    cases hb : bst x with
    | false =>
      left
      simp (disch := first | (simp only [go_sem, Bool.and_self, eq_self]; done) | omega | (simp only [List.length_cons, List.length_nil]; omega)) only [go_sem, ↓reduceIte, Nat.reduceEqDiff, Nat.reduceAdd, Nat.reduceMul, Nat.reduceSub, Int.reduceToNat, Nat.reduceBEq, List.size_toArray, List.length_cons, List.length_nil, Bool.false_and, Bool.true_and, Bool.or_false, Bool.false_or, Bool.and_false, Bool.and_true, vA1, vA3, hst6, hld6, k54, hs, k56, hsE, k55, hi55, k69, hb]
      intro y hy
      rcases List.mem_append.1 hy with hy | hy
      · exact hpre y hy
      · rw [List.mem_singleton.1 hy, hs, hb]; rfl
    | true =>
      right
      have hstL : ∀ h : Hp, storeC h 1 0 1 (some (.cells false false [.nil])) [LP (val x)] = some (.skp, h.put 1 (some (.cells false false [LP (val x)]))) := fun h => storeC_single _ _ _ _ rfl
      simp (disch := first | (simp only [go_sem, Bool.and_self, eq_self]; done) | omega | (simp only [List.length_cons, List.length_nil]; omega)) only [go_sem, ↓reduceIte, Nat.reduceEqDiff, Nat.reduceAdd, Nat.reduceMul, Nat.reduceSub, Int.reduceToNat, Nat.reduceBEq, List.size_toArray, List.length_cons, List.length_nil, Bool.false_and, Bool.true_and, Bool.or_false, Bool.false_or, Bool.and_false, Bool.and_true, s1, s2, s3, hnx, b0, b1, b2, hst6, hld6, k54, hs, k56, hsE, k55, hi55, k69, hb, hstL]
      exact ⟨pre, x, rfl, hpre, by rw [hs, hb]; rfl, rfl⟩
  case done =>
    intro D xs W hxs hφ hB hD hK
    have hltD := (Array.getElem?_eq_some_iff.1 hK).1
    have g2 : ∀ b, (c3.fz b ∨ b = D) → c3.fz b ∨ (w3.heap.size ≤ b ∧ b < W.heap.size) := fun b hb => by
      rcases hb with hb | rfl
      · exact .inl hb
      · exact .inr ⟨hD, hltD⟩
    have E4 := Ext.grow H3 hB (fun b => c3.fz b ∨ b = D) (fun _ h => .inl h) g2
    have H4 := H3.grow hB (fun b => c3.fz b ∨ b = D) (fun _ h => .inl h) g2
    have S4 := S3.mono E4
    have hw : opWrite Try.prog (.store 28 (.tmp 2) (.const (.slice none 0 0))) (ev st) h3 = some (.skp, h3.put 1 (some (.cells false false [.nil]))) := by
      show storeB h3 (isz Try.prog 28) (st 2) .nil = _
      rw [s2, isz28]
      simp [storeB, b1, AV.cells, AV.isCell, setL]
    obtain ⟨nxt, w5, c5, hr5, E5, H5, hnx5⟩ := opWrite_ok (P := Try.prog) (o := ⟨none, .store 28 (.tmp 2) (.const (.slice none 0 0)), 0, "stop.go:203", #[], none⟩) H4 S4.ev hw
    have step : ∀ (b : Act) (K : Act → World → Prop), b.tmps = a3.tmps → K b w5 → Oper.wpIn (rF none) 5 Try.prog ⟨none, .store 28 (.tmp 2) (.const (.slice none 0 0)), 0, "stop.go:203", #[], none⟩ b W K (Exit.then (Code.wpIn (rF none) 5 Try.prog .ret Q) Q) := fun b K hb hK => by
      have he : b.eval = a3.eval := by
        funext x
        cases x <;> simp [Act.eval, hb]
      rw [← he] at hr5
      rcases hnx5 with ⟨x, rfl, h4⟩ | ⟨rfl, _⟩
      · exact next_valueIn (fun c h => by cases h) hr5 hK
      · exact next_skipIn (fun c h => by cases h) hr5 hK
    refine wpIn_seq (wpIn_region ?_)
    show wpOpsIn (rF none) 5 Try.prog _ _ [0] _ W
    have want : ∀ (o : Oper) (f : Nat → Option Bool), o.guard = none → Region.wanted o f = true := fun o f h => by simp [Region.wanted, h]
    simp only [wpOpsIn, List.getElem?_toArray, List.getElem?_cons_zero, List.getElem?_cons_succ, want, if_true]
    refine step _ _ rfl ?_
    refine wpIn_ret ?_
    rw [← hQ]
    have hK5 : w5.heap[D]? = some (.deferred (some [])) := (E5.keep D (.inr rfl)).trans hK
    have hff : firstOf snd bst val (List.range (2 ^ nx.length)) = [] := by
      rw [← hnn, ← hxs, firstOf]
      rw [List.find?_eq_none.2 fun x hx => by rw [hφ x hx]; simp]
    rw [hff] at hR
    have Eall := ((((E1.trans E2).trans E3).trans E4).trans E5)
    have hSd : ({ a3 with defers := { target := .collected D, args := #[] } :: a3.defers } : Act) = { a3 with defers := [{ target := .collected D, args := #[] }] } := by rw [S3.defers]
    rw [hSd]
    have S5 := S4.mono E5
    refine leave_ok (n := 25) (v := .nil) (r := .lst []) (ow := false) (kn := false) (ts := [28]) Eall H5 (a := a3) (st := st) S5 hK5 ?_ ?_ ?_ ?_ ?_
    · rw [hbase0]; have := E1.trans (E2.trans E3); have h1 := this.below.size; omega
    · intro b hb e
      rw [hfz0] at hb
      have h1 := hf b hb
      have := (E1.trans (E2.trans E3)).below.size
      omega
    · have hp1 : (h3.put 1 (some (.cells false false [.nil]))).bl 1 = some (.cells false false [.nil]) := by rw [put_bl, if_pos rfl]
      exact res_cell s2 hp1
    · rfl
    · rw [hbase0, hfz0]; exact hR
  case stop =>
    intro D xs W hpre hψ hD hK
    obtain ⟨c', h', E', H', pre, y, rfl, hno, hyes, hb1⟩ := hψ
    have S' := S3.mono E'
    show Q .ret _ W
    rw [← hQ]
    have hSd : ({ a3 with defers := { target := .collected D, args := #[] } :: a3.defers } : Act) = { a3 with defers := [{ target := .collected D, args := #[] }] } := by rw [S3.defers]
    rw [hSd]
    have Eall := (((E1.trans E2).trans E3).trans E')
    have hff : firstOf snd bst val (List.range (2 ^ nx.length)) = val y := by
      obtain ⟨m, hm⟩ := hpre
      rw [← hnn, ← hm, firstOf]
      have : (pre ++ [y] ++ m).find? (fun x => snd x && bst x) = some y := by
        rw [List.append_assoc, List.find?_append, List.find?_eq_none.2 fun x hx => by rw [hno x hx]; simp]
        simp [hyes]
      rw [this]
    rw [hff] at hR
    refine leave_ok (n := 25) (v := LP (val y)) (r := LP (val y)) (ow := false) (kn := false) (ts := [28]) Eall H' (a := a3) (st := st) S' hK ?_ ?_ ?_ ?_ ?_
    · rw [hbase0]; have := E1.trans (E2.trans E3); have h1 := this.below.size; omega
    · intro b hb e
      rw [hfz0] at hb
      have h1 := hf b hb
      have := (E1.trans (E2.trans E3)).below.size
      omega
    · exact res_cell s2 hb1
    · exact export_L false 28 (val y)
    · rw [hbase0, hfz0]; exact hR
end Go.Proofs.Ytgamcclfdkpcgaa

set_option linter.unusedVariables false
set_option linter.unusedSimpArgs false
set_option maxRecDepth 10000
namespace Go.Proofs.Ytgamcclfdkpcgaa
open Go Go.Am Go.RowKit

variable {h h' : Hp} {K : AV → Hp → Prop}

def cA : AV := .agg [LLI [[0, 4], [0, 0]], LI [1, 5], LI [2, 0]]
def uA (b0 b1 : Bool) : AV := .agg [.bool b0, .bool b1, .bool false, .bool false, .bool false, .bool false]
noncomputable def callA (f : FuncId) (args : List AV) : AV := (callP Try.prog cfg 400 f args).getD .skp
def boolA : AV → Bool
  | .bool b => b
  | _ => false
def fracA : AV → List (Int × Int)
  | .lst rows => rows.map fun r => match r with | [.int _ a, .int _ b] => (a, b) | _ => (0, 0)
  | _ => []
def aggA : AV → List AV
  | .agg cs => cs
  | _ => []
noncomputable def sndA (b0 b1 : Bool) : Bool := boolA (callA 54 [cA, uA b0 b1])
noncomputable def eqA (b0 b1 : Bool) : List AV := aggA (callA 56 [cA, uA b0 b1])
noncomputable def valA (b0 b1 : Bool) : List (Int × Int) := fracA (callA 55 [.agg (eqA b0 b1), I 2])
noncomputable def bstA (b0 b1 : Bool) : Bool := boolA (callA 69 [cA, LP (valA b0 b1)])
theorem uA_ok (x : Nat) : uR 2 x = uA (x.testBit 0) (x.testBit 1) := rfl
theorem run54 : ∀ b0 b1, callP Try.prog cfg 400 54 [cA, uA b0 b1] = some (.bool (sndA b0 b1))
  | true, true => by kernel_rfl
  | true, false => by kernel_rfl
  | false, true => by kernel_rfl
  | false, false => by kernel_rfl
theorem run56 : ∀ b0 b1, callP Try.prog cfg 400 56 [cA, uA b0 b1] = some (.agg (eqA b0 b1))
  | true, true => by kernel_rfl
  | true, false => by kernel_rfl
  | false, true => by kernel_rfl
  | false, false => by kernel_rfl
theorem pure56 : ∀ b0 b1, AV.pureL (eqA b0 b1) = true
  | true, true => by kernel_rfl
  | true, false => by kernel_rfl
  | false, true => by kernel_rfl
  | false, false => by kernel_rfl
theorem run55 : ∀ b0 b1, callP Try.prog cfg 400 55 [.agg (eqA b0 b1), I 2] = some (LP (valA b0 b1))
  | true, true => by kernel_rfl
  | true, false => by kernel_rfl
  | false, true => by kernel_rfl
  | false, false => by kernel_rfl
theorem run69 : ∀ b0 b1, callP Try.prog cfg 400 69 [cA, LP (valA b0 b1)] = some (.bool (bstA b0 b1))
  | true, true => by kernel_rfl
  | true, false => by kernel_rfl
  | false, true => by kernel_rfl
  | false, false => by kernel_rfl
theorem ways : Ways cA 2 (fun x => sndA (x.testBit 0) (x.testBit 1)) (fun x => bstA (x.testBit 0) (x.testBit 1)) (fun x => .agg (eqA (x.testBit 0) (x.testBit 1))) (fun x => valA (x.testBit 0) (x.testBit 1)) :=
  ⟨fun x => by rw [uA_ok]; exact ⟨400, run54 _ _⟩, fun x _ => by rw [uA_ok]; exact ⟨400, run56 _ _⟩, fun x _ => ⟨_, rfl, pure56 _ _⟩, fun x _ => ⟨400, run55 _ _⟩, fun x _ => ⟨400, run69 _ _⟩⟩
theorem best_a : firstOf (fun x => sndA (x.testBit 0) (x.testBit 1)) (fun x => bstA (x.testBit 0) (x.testBit 1)) (fun x => valA (x.testBit 0) (x.testBit 1)) (List.range (2 ^ 2)) = [(3, 1), (5, 1)] := by kernel_rfl
theorem f49_a : PureOk Try.prog 49 [cA] (LP [(3, 1), (5, 1)]) := by
  rw [← best_a]
  exact best_pure [[0, 4], [0, 0]] [1, 5] [2, 0] (by decide) ways

def extK (f : FuncId) : List AV → Option AV
  | [.agg [.lst [[.lst [[.int .i64 0], [.int .i64 4]]], [.lst [[.int .i64 0], [.int .i64 0]]]], .lst [[.int .i64 1], [.int .i64 5]], .lst [[.int .i64 2], [.int .i64 0]]]] =>
    if f = 49 then some (LP [(3, 1), (5, 1)]) else none
  | _ => none
def cfgK : Cfg := { cfg with ext := extK }
theorem hextK : ExtOk Try.prog cfgK := by
  intro f args r he
  have he : extK f args = some r := he
  unfold extK at he
  split at he
  · split at he
    · rename_i hf
      cases he
      subst hf
      exact ⟨f49_a, fun _ => rfl⟩
    · cases he
  · cases he
theorem f21_run : callP Try.prog cfgK 500 21 [] = some (.bool true) := by kernel_rfl
theorem f21_pure : PureOk Try.prog 21 [] (.bool true) := (sound hextK 500).2.2.1 _ _ _ f21_run
end Go.Proofs.Ytgamcclfdkpcgaa

set_option linter.unusedVariables false
set_option linter.unusedSimpArgs false
set_option maxRecDepth 10000
namespace Go.Proofs.Ytgamcclfdkpcgaa
open Go Go.Am Go.RowKit

variable {c : Cfg} {h h' : Hp} {K : AV → Hp → Prop} {ops : Array Oper} {lim : Option Nat} {st : St}

@[go_sem ↓ high] theorem W_b37z : StepW Try.prog c ops lim (.build 37 #[]) st h K = K (.agg [I 0, I 0]) h := by
  rw [W_build, show buildB Try.prog (Try.prog.underlying 37) (izero Try.prog 37) ((#[] : Array (Nat × Operand)).toList.map fun p => (p.1, ev st p.2)) = some (.agg [I 0, I 0]) by kernel_rfl]
  exact getW_some _
/-- Two numbers, as a fraction. -/
noncomputable def mk37 (x y : AV) : Option AV := buildB Try.prog (Try.prog.underlying 37) (izero Try.prog 37) [(0, x), (1, y)]
@[go_sem ↓ high] theorem W_b37 (a b : Operand) : StepW Try.prog c ops lim (.build 37 #[(0, a), (1, b)]) st h K = getW (mk37 (ev st a) (ev st b)) h K := by
  rw [W_build]; rfl
@[go_sem] theorem mk37_I (x y : Int) : mk37 (I x) (I y) = some (.agg [I x, I y]) := by kernel_rfl
noncomputable def eq37 (x y : AV) : Option AV := binA Try.prog .eql 37 x y
noncomputable def ne37 (x y : AV) : Option AV := binA Try.prog .neq 37 x y
@[go_sem ↓ high] theorem W_eq37 (x y : Operand) (z) : StepW Try.prog c ops lim (.binOp .eql 37 x y z) st h K = getW (eq37 (ev st x) (ev st y)) h K := StepW_pureOp rfl rfl rfl rfl fun _ => rfl
@[go_sem ↓ high] theorem W_ne37 (x y : Operand) (z) : StepW Try.prog c ops lim (.binOp .neq 37 x y z) st h K = getW (ne37 (ev st x) (ev st y)) h K := StepW_pureOp rfl rfl rfl rfl fun _ => rfl
@[go_sem] theorem eq37_I (a b c d : Int) : eq37 (.agg [I a, I b]) (.agg [I c, I d]) = some (.bool (decide (a = c) && decide (b = d))) := by
  have : eq37 (.agg [I a, I b]) (.agg [I c, I d]) = some (.bool ((a == c && (b == d && true)) == true)) := by kernel_rfl
  rw [this]; simp [Bool.beq_eq_decide_eq]
@[go_sem] theorem ne37_I (a b c d : Int) : ne37 (.agg [I a, I b]) (.agg [I c, I d]) = some (.bool (!(decide (a = c) && decide (b = d)))) := by
  have : ne37 (.agg [I a, I b]) (.agg [I c, I d]) = some (.bool ((a == c && (b == d && true)) == false)) := by kernel_rfl
  rw [this]; simp [Bool.beq_eq_decide_eq]

@[go_sem] theorem storeC_w2 (id : Nat) (row : Bool) (a b x y : AV) : storeC h id 0 2 (some (.cells false row [a, b])) [x, y] = if (x.isCell && y.isCell) = true then some (.skp, h.put id (some (.cells false row [x, y]))) else none := by
  simp [storeC, setL]
@[go_sem] theorem storeC_w3 (id : Nat) (row : Bool) (a b c x y z : AV) : storeC h id 0 3 (some (.cells false row [a, b, c])) [x, y, z] = if (x.isCell && (y.isCell && z.isCell)) = true then some (.skp, h.put id (some (.cells false row [x, y, z]))) else none := by
  simp [storeC, setL]

@[go_sem] theorem ev_nilmap : ev st (.const (.map none)) = .nilmp := rfl

/-! ### Results that lie in memory -/
def resC (P : Program) (h : Hp) (t : TypeId) : AV → Option AV
  | .ptr id off => loadC (P.underlying t) (isz P t) (cellsAt none h (.ptr id off))
  | _ => none
@[go_sem] theorem resC_ptr (P : Program) (t : TypeId) (id off : Nat) : resC P h t (.ptr id off) = loadC (P.underlying t) (isz P t) (cellsAt none h (.ptr id off)) := rfl
theorem resA_cell (P : Program) (a t : Nat) : resA P h st (.cell a t) = resC P h t (st a) := by
  simp only [resA]
  cases st a <;> try rfl
  rename_i id off
  simp only [resC, loadC, cellsAt, loadA_B]
  cases rd h none id <;> rfl
@[go_sem] theorem resR_c (P : Program) (a t : Nat) : resR P h st [.cell a t] = resC P h t (st a) := by
  simp only [resR, resL, resA_cell]; cases resC P h t (st a) <;> rfl
@[go_sem] theorem resR_ct (P : Program) (a t u : Nat) : resR P h st [.cell a t, .tmp u] = (resC P h t (st a)).bind fun v => some (.tup [v, st u]) := by
  simp only [resR, resL, resA_cell]; cases resC P h t (st a) <;> rfl
@[go_sem] theorem resR_tc (P : Program) (a t w : Nat) : resR P h st [.tmp w, .cell a t] = (resC P h t (st a)).bind fun v => some (.tup [st w, v]) := by
  simp only [resR, resL, resA_cell]; cases resC P h t (st a) <;> rfl
@[go_sem] theorem resR_tct (P : Program) (a t u w : Nat) : resR P h st [.tmp w, .cell a t, .tmp u] = (resC P h t (st a)).bind fun v => some (.tup [st w, v, st u]) := by
  simp only [resR, resL, resA_cell]; cases resC P h t (st a) <;> rfl
@[go_sem] theorem resR_cct (P : Program) (a t b t' u : Nat) : resR P h st [.cell a t, .cell b t', .tmp u] = (resC P h t (st a)).bind fun v => (resC P h t' (st b)).bind fun v' => some (.tup [v, v', st u]) := by
  simp only [resR, resL, resA_cell]; cases resC P h t (st a) <;> cases resC P h t' (st b) <;> rfl

/-! ### copy -/
def slId : AV → Nat
  | .sl id _ _ _ => id
  | _ => 0
@[go_sem] theorem slId_sl (id o n s : Nat) : slId (.sl id o n s) = id := rfl
def copyC (h : Hp) (u : Option TypeDesc) (s : Option Nat) (x : AV) (b : Option Blk) (ys : Option (List AV)) (m : Option Nat) : Option (AV × Hp) :=
  match u, x with
  | some (.slice _), .sl id off n sz => match s, ys, m, b with
    | some sz', some ys, some m, some (.cells false row flat) =>
      if sz' = sz ∧ 0 < sz ∧ ys.length = m * sz ∧ off + n * sz ≤ flat.length ∧ ys.all AV.isCell then
        some (.int .i64 (min m n : Nat), h.put id (some (.cells false row (setL flat off (ys.take (min m n * sz)))))) else none
    | _, _, _, _ => none
  | _, _ => none
@[go_sem ↓] theorem W_copy (x y : Operand) (t t' : TypeId) : StepW Try.prog c ops lim (.call ⟨.builtin .copy, #[x, y], #[t, t']⟩) st h K =
    getW2 (copyC h (Try.prog.underlying t) (isz Try.prog (match Try.prog.underlying t with | some (.slice e) => e | _ => 0)) (ev st x) (h.bl (slId (ev st x))) (cellsOf h none (ev st y)) (lenA (ev st y))) K := by
  refine StepW_writeOp ?_ rfl rfl rfl fun _ => rfl
  simp only [opWrite, copyC, List.getElem?_toArray, List.getElem?_cons_zero, List.getElem?_cons_succ, Option.map_some]
  generalize ev st x = v
  cases v <;> dsimp only <;> generalize Try.prog.underlying t = u <;> (cases u with
    | none => rfl
    | some d => cases d <;> rfl)
theorem setL_front {α : Type} (f : α → AV) (vs xs : List α) (hl : vs.length ≤ xs.length) : setL (xs.flatMap (e1 f)) 0 (vs.flatMap (e1 f)) = (vs ++ xs.drop vs.length).flatMap (e1 f) := by
  have e : ∀ ys : List α, ys.flatMap (e1 f) = ys.map f := by
    intro ys
    induction ys with
    | nil => rfl
    | cons y ys ih => rw [List.flatMap_cons, ih]; rfl
  rw [e, e, e]
  refine List.ext_getElem? fun j => ?_
  rw [(setL_get (vs.map f) (xs.map f) 0 (by simpa using hl)).2 j]
  simp only [Nat.zero_le, true_and, Nat.zero_add, List.length_map, Nat.sub_zero]
  split
  · rename_i hj
    rw [List.map_append, List.getElem?_append_left (by simpa using hj)]
  · rename_i hj
    rw [List.map_append, List.getElem?_append_right (by simp; omega)]
    simp only [List.getElem?_map, List.length_map, List.getElem?_drop]
    congr 2; omega
@[go_sem] theorem copyC_I (e id n : Nat) (row : Bool) (xs vs : List Int) (hl : xs.length = n) (hv : vs.length ≤ n) :
    copyC h (some (.slice e)) (some 1) (.sl id 0 n 1) (some (.cells false row (xs.flatMap (e1 I)))) (some (vs.flatMap (e1 I))) (some vs.length) =
      some (I vs.length, h.put id (some (.cells false row ((vs ++ xs.drop vs.length).flatMap (e1 I))))) := by
  have h1 : (vs.flatMap (e1 I)).all AV.isCell = true := by
    refine List.all_eq_true.2 fun x hx => ?_
    obtain ⟨a, _, ha⟩ := List.mem_flatMap.1 hx
    simp only [e1, List.mem_singleton] at ha
    subst ha; rfl
  have h2 : min vs.length n = vs.length := by omega
  unfold copyC; dsimp only
  rw [if_pos ⟨rfl, by decide, by rw [flat_len]; omega, by rw [flat_len]; omega, h1⟩, h2, List.take_of_length_le (by rw [flat_len]; omega), setL_front _ _ _ (by omega)]

/-! ### A part of an array -/
def sliceC (s : Option Nat) (n off id : Nat) (lo hi : Option AV) (b : Option Blk) (l : Bool) : Option AV :=
  (hiB hi n).bind fun b' => (loB lo b').bind fun a => match s, b with
    | some sz, some (.cells _ false flat) => if off + n * sz ≤ flat.length ∧ n ≤ maxLen ∧ l = true then some (.sl id (off + a * sz) (b' - a) sz) else none
    | _, _ => none
@[go_sem] theorem sliceB_arr (P : Program) (n e id off : Nat) (lo hi : Option AV) : sliceB P (some (.array n e)) (.ptr id off) lo hi h lim = sliceC (isz P e) n off id lo hi (h.bl id) (lims lim id) := rfl
@[go_sem] theorem sliceC_all (id : Nat) (fz : Bool) (xs : List Int) (hl : xs.length = 10) : sliceC (some 1) 10 0 id none none (some (.cells fz false (xs.flatMap (e1 I)))) true = some (.sl id 0 10 1) := by
  have : (10 : Nat) ≤ maxLen := by decide
  have hfl : (xs.flatMap (e1 I)).length = 10 := by rw [flat_len, hl]
  generalize xs.flatMap (e1 I) = fl at hfl
  simp [sliceC, hiB, loB, hfl, this]
@[go_sem] theorem sliceC_to (id : Nat) (fz : Bool) (xs : List Int) (m : Int) (hl : xs.length = 10) (h0 : 0 ≤ m) (h1 : m ≤ 10) : sliceC (some 1) 10 0 id none (some (I m)) (some (.cells fz false (xs.flatMap (e1 I)))) true = some (.sl id 0 m.toNat 1) := by
  have : (10 : Nat) ≤ maxLen := by decide
  have hfl : (xs.flatMap (e1 I)).length = 10 := by rw [flat_len, hl]
  generalize xs.flatMap (e1 I) = fl at hfl
  simp [sliceC, hiB, loB, boundA, hfl, this, h0, h1]


end Go.Proofs.Ytgamcclfdkpcgaa

set_option linter.unusedVariables false
set_option linter.unusedSimpArgs false
set_option maxRecDepth 10000
namespace Go.Proofs.Ytgamcclfdkpcgaa
open Go Go.Am Go.RowKit

variable {h h' : Hp} {K : AV → Hp → Prop}

def inB (n lo hi : Int) : Bool := decide (lo ≤ n) && decide (n ≤ hi)
theorem f50_con (n lo hi : Int) : Con Try.prog cfg 50 [I n, I lo, I hi] (.bool (inB n lo hi)) := by
  by_cases hc : lo ≤ n
  · have : inB n lo hi = decide (n ≤ hi) := by simp [inB, hc]
    rw [this]
    refine Con_intro Try.func50 rfl ok50 (Nat.le_of_ble_eq_true rfl) rfl ?_
    simp only [Try.f50, Option.getD_some, initSt3]
    simp (disch := first | (simp only [go_sem, Bool.and_self, eq_self]; done) | omega | (simp only [List.length_cons, List.length_nil]; omega)) only [go_sem, ↓reduceIte, Nat.reduceEqDiff, Nat.reduceAdd, Nat.reduceMul, Nat.reduceSub, Int.reduceToNat, Nat.reduceBEq, List.size_toArray, List.length_cons, List.length_nil, Bool.false_and, Bool.true_and, Bool.or_false, Bool.false_or, Bool.and_false, Bool.and_true, hc]
  · have : inB n lo hi = false := by simp [inB, hc]
    rw [this]
    refine Con_intro Try.func50 rfl ok50 (Nat.le_of_ble_eq_true rfl) rfl ?_
    simp only [Try.f50, Option.getD_some, initSt3]
    simp (disch := first | (simp only [go_sem, Bool.and_self, eq_self]; done) | omega | (simp only [List.length_cons, List.length_nil]; omega)) only [go_sem, ↓reduceIte, Nat.reduceEqDiff, Nat.reduceAdd, Nat.reduceMul, Nat.reduceSub, Int.reduceToNat, Nat.reduceBEq, List.size_toArray, List.length_cons, List.length_nil, Bool.false_and, Bool.true_and, Bool.or_false, Bool.false_or, Bool.and_false, Bool.and_true, hc]
@[go_sem] theorem k50 (n lo hi : Int) : ConW Try.prog cfg 50 h (some ([I n, I lo, I hi], h')) K = K (.bool (inB n lo hi)) h := ConW_num (f50_con n lo hi) rfl

def gcdI (a b : Int) : Int := (Int.gcd a b : Int)
theorem gcdI_step (a b : Int) : gcdI b (a.tmod b) = gcdI a b := by
  unfold gcdI
  rw [Int.gcd_comm a b]
  congr 1
  have h1 : b.gcd (a.tmod b) = b.natAbs.gcd (a.natAbs % b.natAbs) := by
    show b.natAbs.gcd (a.tmod b).natAbs = _
    rw [Int.natAbs_tmod]
  rw [h1, Nat.gcd_comm b.natAbs (a.natAbs % b.natAbs), ← Nat.gcd_rec]
  rfl
theorem gcdI_zero (a : Int) : gcdI a 0 = (a.natAbs : Int) := by
  unfold gcdI; rw [Int.gcd_zero_right]
theorem gcdI_nonneg (a b : Int) : 0 ≤ gcdI a b := Int.natCast_nonneg _
theorem gcdI_pos {a b : Int} (hb : b ≠ 0) : 0 < gcdI a b := by
  unfold gcdI
  have : Int.gcd a b ≠ 0 := by rw [Ne, Int.gcd_eq_zero_iff]; omega
  omega
abbrev big : Int := 4611686018427387904
theorem tmod_lt_abs (x : Int) {y : Int} (hy : y ≠ 0) : (x.tmod y).natAbs < y.natAbs := by
  rw [Int.natAbs_tmod]; exact Nat.mod_lt _ (by omega)
theorem f79_con (a b : Int) (ha : -big ≤ a ∧ a ≤ big) (hb : -big ≤ b ∧ b ≤ big) : Con Try.prog cfg 79 [I a, I b] (I (gcdI a b)) := by
  refine Con_intro Try.func79 rfl ok79 (Nat.le_of_ble_eq_true rfl) rfl ?_
  simp only [Try.f79, Option.getD_some, initSt2]
  simp (disch := first | (simp only [go_sem, Bool.and_self, eq_self]; done) | omega | (simp only [List.length_cons, List.length_nil]; omega)) only [go_sem, ↓reduceIte, Nat.reduceEqDiff, Nat.reduceAdd, Nat.reduceMul, Nat.reduceSub, Int.reduceToNat, Nat.reduceBEq, List.size_toArray, List.length_cons, List.length_nil, Bool.false_and, Bool.true_and, Bool.or_false, Bool.false_or, Bool.and_false, Bool.and_true]
  refine WP_cut (fun st h => ∃ x : Int, -big ≤ x ∧ x ≤ big ∧ (x.natAbs : Int) = gcdI a b ∧ st 0 = I x) ?_ ?_
  · refine WP_loopK (fun m st h => ∃ x y : Int, m = y.natAbs ∧ -big ≤ x ∧ x ≤ big ∧ -big ≤ y ∧ y ≤ big ∧ gcdI x y = gcdI a b ∧ st 0 = I x ∧ st 1 = I y) b.natAbs
      ⟨a, b, rfl, ha.1, ha.2, hb.1, hb.2, rfl, by simp (disch := first | (simp only [go_sem, Bool.and_self, eq_self]; done) | omega | (simp only [List.length_cons, List.length_nil]; omega)) only [go_sem, ↓reduceIte, Nat.reduceEqDiff, Nat.reduceAdd, Nat.reduceMul, Nat.reduceSub, Int.reduceToNat, Nat.reduceBEq, List.size_toArray, List.length_cons, List.length_nil, Bool.false_and, Bool.true_and, Bool.or_false, Bool.false_or, Bool.and_false, Bool.and_true], by simp (disch := first | (simp only [go_sem, Bool.and_self, eq_self]; done) | omega | (simp only [List.length_cons, List.length_nil]; omega)) only [go_sem, ↓reduceIte, Nat.reduceEqDiff, Nat.reduceAdd, Nat.reduceMul, Nat.reduceSub, Int.reduceToNat, Nat.reduceBEq, List.size_toArray, List.length_cons, List.length_nil, Bool.false_and, Bool.true_and, Bool.or_false, Bool.false_or, Bool.and_false, Bool.and_true]⟩ ?_
    rintro n st h ⟨x, y, rfl, hx0, hx1, hy0, hy1, hgg, s0, s1⟩
    by_cases hy : y = 0
    · subst hy
      rw [gcdI_zero] at hgg
      simp (disch := first | (simp only [go_sem, Bool.and_self, eq_self]; done) | omega | (simp only [List.length_cons, List.length_nil]; omega)) only [go_sem, ↓reduceIte, Nat.reduceEqDiff, Nat.reduceAdd, Nat.reduceMul, Nat.reduceSub, Int.reduceToNat, Nat.reduceBEq, List.size_toArray, List.length_cons, List.length_nil, Bool.false_and, Bool.true_and, Bool.or_false, Bool.false_or, Bool.and_false, Bool.and_true, s0, s1]
      exact ⟨x, hx0, hx1, hgg, rfl⟩
    have hlt := tmod_lt_abs x hy
    simp (disch := first | (simp only [go_sem, Bool.and_self, eq_self]; done) | omega | (simp only [List.length_cons, List.length_nil]; omega)) only [go_sem, ↓reduceIte, Nat.reduceEqDiff, Nat.reduceAdd, Nat.reduceMul, Nat.reduceSub, Int.reduceToNat, Nat.reduceBEq, List.size_toArray, List.length_cons, List.length_nil, Bool.false_and, Bool.true_and, Bool.or_false, Bool.false_or, Bool.and_false, Bool.and_true, s0, s1, hy]
    rw [LoopK_normal]
    exact ⟨(x.tmod y).natAbs, hlt, y, x.tmod y, rfl, hy0, hy1, by simp only [big] at *; omega, by simp only [big] at *; omega, (gcdI_step x y).trans hgg, by simp (disch := first | (simp only [go_sem, Bool.and_self, eq_self]; done) | omega | (simp only [List.length_cons, List.length_nil]; omega)) only [go_sem, ↓reduceIte, Nat.reduceEqDiff, Nat.reduceAdd, Nat.reduceMul, Nat.reduceSub, Int.reduceToNat, Nat.reduceBEq, List.size_toArray, List.length_cons, List.length_nil, Bool.false_and, Bool.true_and, Bool.or_false, Bool.false_or, Bool.and_false, Bool.and_true], by simp (disch := first | (simp only [go_sem, Bool.and_self, eq_self]; done) | omega | (simp only [List.length_cons, List.length_nil]; omega)) only [go_sem, ↓reduceIte, Nat.reduceEqDiff, Nat.reduceAdd, Nat.reduceMul, Nat.reduceSub, Int.reduceToNat, Nat.reduceBEq, List.size_toArray, List.length_cons, List.length_nil, Bool.false_and, Bool.true_and, Bool.or_false, Bool.false_or, Bool.and_false, Bool.and_true]⟩
  · rintro st h ⟨x, hx0, hx1, hx, s0⟩
    have e1 : max x (0 - x) = gcdI a b := by omega
    simp only [big] at hx0 hx1
    simp (disch := first | (simp only [go_sem, Bool.and_self, eq_self]; done) | omega | (simp only [List.length_cons, List.length_nil]; omega)) only [go_sem, ↓reduceIte, Nat.reduceEqDiff, Nat.reduceAdd, Nat.reduceMul, Nat.reduceSub, Int.reduceToNat, Nat.reduceBEq, List.size_toArray, List.length_cons, List.length_nil, Bool.false_and, Bool.true_and, Bool.or_false, Bool.false_or, Bool.and_false, Bool.and_true, s0, e1]
theorem k79 (a b : Int) (ha : -big ≤ a ∧ a ≤ big) (hb : -big ≤ b ∧ b ≤ big) : ConW Try.prog cfg 79 h (some ([I a, I b], h')) K = K (I (gcdI a b)) h := ConW_num (f79_con a b ha hb) rfl

/-- A fraction without a common divisor; its denominator is positive. -/
def rdP (a b : Int) : Int × Int := if b < 0 then (-a / gcdI a b, -b / gcdI a b) else (a / gcdI a b, b / gcdI a b)
abbrev FR (q : Int × Int) : AV := .agg [I q.1, I q.2]
theorem gcdI_neg (a b : Int) : gcdI (-a) (-b) = gcdI a b := by simp [gcdI]
theorem div_abs {a g : Int} (hg : 0 < g) : (a / g).natAbs ≤ a.natAbs ∨ True := .inr trivial
theorem tdiv_gcd_l (a b : Int) : a.tdiv (gcdI a b) = a / gcdI a b := Int.tdiv_eq_ediv_of_dvd (Int.gcd_dvd_left a b)
theorem tdiv_gcd_r (a b : Int) : b.tdiv (gcdI a b) = b / gcdI a b := Int.tdiv_eq_ediv_of_dvd (Int.gcd_dvd_right a b)
theorem div_rng {a g : Int} (hg : 0 < g) (hd : g ∣ a) : -(a.natAbs : Int) ≤ a / g ∧ a / g ≤ a.natAbs := by
  obtain ⟨k, rfl⟩ := hd
  rw [Int.mul_ediv_cancel_left k (by omega)]
  have h1 : (g * k).natAbs = g.natAbs * k.natAbs := Int.natAbs_mul g k
  have h2 : k.natAbs ≤ g.natAbs * k.natAbs := Nat.le_mul_of_pos_left _ (by omega)
  rw [h1]; omega
theorem f70_con (a b : Int) (ha : -big ≤ a ∧ a ≤ big) (hb : -big ≤ b ∧ b ≤ big) (hb0 : b ≠ 0) : Con Try.prog cfg 70 [I a, I b] (FR (rdP a b)) := by
  have hg := gcdI_pos (a := a) hb0
  have dl : gcdI a b ∣ a := Int.gcd_dvd_left a b
  have dr : gcdI a b ∣ b := Int.gcd_dvd_right a b
  have g0 : ¬ gcdI a b = 0 := by omega
  have r1 := div_rng hg dl
  have r2 := div_rng hg dr
  simp only [big] at ha hb
  by_cases hn : b < 0
  · have hr : rdP a b = (-a / gcdI a b, -b / gcdI a b) := by simp [rdP, hn]
    have kg := fun h h' K => k79 (h := h) (h' := h') (K := K) (0 - a) (0 - b) (by simp only [big]; omega) (by simp only [big]; omega)
    have e0 : gcdI (0 - a) (0 - b) = gcdI a b := by rw [Int.zero_sub, Int.zero_sub, gcdI_neg]
    rw [e0] at kg
    have t1 : (0 - a).tdiv (gcdI a b) = -a / gcdI a b := by rw [Int.zero_sub, Int.tdiv_eq_ediv_of_dvd ((Int.dvd_neg).2 dl)]
    have t2 : (0 - b).tdiv (gcdI a b) = -b / gcdI a b := by rw [Int.zero_sub, Int.tdiv_eq_ediv_of_dvd ((Int.dvd_neg).2 dr)]
    have q1 := div_rng hg ((Int.dvd_neg).2 dl)
    have q2 := div_rng hg ((Int.dvd_neg).2 dr)
    rw [hr]
    refine Con_intro Try.func70 rfl ok70 (Nat.le_of_ble_eq_true rfl) rfl ?_
    simp only [Try.f70, Option.getD_some, initSt2]
    simp (disch := first | (simp only [go_sem, Bool.and_self, eq_self]; done) | omega | (simp only [List.length_cons, List.length_nil]; omega)) only [go_sem, ↓reduceIte, Nat.reduceEqDiff, Nat.reduceAdd, Nat.reduceMul, Nat.reduceSub, Int.reduceToNat, Nat.reduceBEq, List.size_toArray, List.length_cons, List.length_nil, Bool.false_and, Bool.true_and, Bool.or_false, Bool.false_or, Bool.and_false, Bool.and_true, hn, kg, t1, t2, g0]
    rfl
  · have hr : rdP a b = (a / gcdI a b, b / gcdI a b) := by simp [rdP, hn]
    have kg := fun h h' K => k79 (h := h) (h' := h') (K := K) a b (by simp only [big]; omega) (by simp only [big]; omega)
    have t1 := tdiv_gcd_l a b
    have t2 := tdiv_gcd_r a b
    rw [hr]
    refine Con_intro Try.func70 rfl ok70 (Nat.le_of_ble_eq_true rfl) rfl ?_
    simp only [Try.f70, Option.getD_some, initSt2]
    simp (disch := first | (simp only [go_sem, Bool.and_self, eq_self]; done) | omega | (simp only [List.length_cons, List.length_nil]; omega)) only [go_sem, ↓reduceIte, Nat.reduceEqDiff, Nat.reduceAdd, Nat.reduceMul, Nat.reduceSub, Int.reduceToNat, Nat.reduceBEq, List.size_toArray, List.length_cons, List.length_nil, Bool.false_and, Bool.true_and, Bool.or_false, Bool.false_or, Bool.and_false, Bool.and_true, hn, kg, t1, t2, g0]
    rfl
theorem k70 (a b : Int) (ha : -big ≤ a ∧ a ≤ big) (hb : -big ≤ b ∧ b ≤ big) (hb0 : b ≠ 0) : ConW Try.prog cfg 70 h (some ([I a, I b], h')) K = K (FR (rdP a b)) h := ConW_num (f70_con a b ha hb hb0) rfl

/-! ### The reference's -/
theorem f71_con (a b : Int) (ha : 0 ≤ a ∧ a ≤ big) (hb : 0 ≤ b ∧ b ≤ big) : Con Try.prog cfg 71 [I a, I b] (I (gcdI a b)) := by
  refine Con_intro Try.func71 rfl ok71 (Nat.le_of_ble_eq_true rfl) rfl ?_
  simp only [Try.f71, Option.getD_some, initSt2]
  simp (disch := first | (simp only [go_sem, Bool.and_self, eq_self]; done) | omega | (simp only [List.length_cons, List.length_nil]; omega)) only [go_sem, ↓reduceIte, Nat.reduceEqDiff, Nat.reduceAdd, Nat.reduceMul, Nat.reduceSub, Int.reduceToNat, Nat.reduceBEq, List.size_toArray, List.length_cons, List.length_nil, Bool.false_and, Bool.true_and, Bool.or_false, Bool.false_or, Bool.and_false, Bool.and_true]
  refine WP_loopK (fun m st h => ∃ x y : Int, m = y.toNat ∧ 0 ≤ x ∧ x ≤ big ∧ 0 ≤ y ∧ y ≤ big ∧ gcdI x y = gcdI a b ∧ st 0 = I x ∧ st 1 = I y) b.toNat
    ⟨a, b, rfl, ha.1, ha.2, hb.1, hb.2, rfl, by simp (disch := first | (simp only [go_sem, Bool.and_self, eq_self]; done) | omega | (simp only [List.length_cons, List.length_nil]; omega)) only [go_sem, ↓reduceIte, Nat.reduceEqDiff, Nat.reduceAdd, Nat.reduceMul, Nat.reduceSub, Int.reduceToNat, Nat.reduceBEq, List.size_toArray, List.length_cons, List.length_nil, Bool.false_and, Bool.true_and, Bool.or_false, Bool.false_or, Bool.and_false, Bool.and_true], by simp (disch := first | (simp only [go_sem, Bool.and_self, eq_self]; done) | omega | (simp only [List.length_cons, List.length_nil]; omega)) only [go_sem, ↓reduceIte, Nat.reduceEqDiff, Nat.reduceAdd, Nat.reduceMul, Nat.reduceSub, Int.reduceToNat, Nat.reduceBEq, List.size_toArray, List.length_cons, List.length_nil, Bool.false_and, Bool.true_and, Bool.or_false, Bool.false_or, Bool.and_false, Bool.and_true]⟩ ?_
  rintro n st h ⟨x, y, rfl, hx0, hx1, hy0, hy1, hgg, s0, s1⟩
  by_cases hy : 0 < y
  case neg =>
    obtain rfl : y = 0 := by omega
    rw [gcdI_zero] at hgg
    have : (x.natAbs : Int) = x := by omega
    rw [this] at hgg
    subst hgg
    have h00 : ¬ (0 : Int) < 0 := by decide
    simp (disch := first | (simp only [go_sem, Bool.and_self, eq_self]; done) | omega | (simp only [List.length_cons, List.length_nil]; omega)) only [go_sem, ↓reduceIte, Nat.reduceEqDiff, Nat.reduceAdd, Nat.reduceMul, Nat.reduceSub, Int.reduceToNat, Nat.reduceBEq, List.size_toArray, List.length_cons, List.length_nil, Bool.false_and, Bool.true_and, Bool.or_false, Bool.false_or, Bool.and_false, Bool.and_true, s0, s1, h00]
  have hy' : ¬ y = 0 := by omega
  have hm0 : 0 ≤ x.tmod y := Int.tmod_nonneg y hx0
  have hm1 : x.tmod y < y := Int.tmod_lt_of_pos x (by omega)
  simp only [big] at hx1 hy1
  simp (disch := first | (simp only [go_sem, Bool.and_self, eq_self]; done) | omega | (simp only [List.length_cons, List.length_nil]; omega)) only [go_sem, ↓reduceIte, Nat.reduceEqDiff, Nat.reduceAdd, Nat.reduceMul, Nat.reduceSub, Int.reduceToNat, Nat.reduceBEq, List.size_toArray, List.length_cons, List.length_nil, Bool.false_and, Bool.true_and, Bool.or_false, Bool.false_or, Bool.and_false, Bool.and_true, s0, s1, hy, hy']
  rw [LoopK_normal]
  exact ⟨(x.tmod y).toNat, by omega, y, x.tmod y, rfl, by omega, by simp only [big]; omega, hm0, by simp only [big]; omega, (gcdI_step x y).trans hgg, by simp (disch := first | (simp only [go_sem, Bool.and_self, eq_self]; done) | omega | (simp only [List.length_cons, List.length_nil]; omega)) only [go_sem, ↓reduceIte, Nat.reduceEqDiff, Nat.reduceAdd, Nat.reduceMul, Nat.reduceSub, Int.reduceToNat, Nat.reduceBEq, List.size_toArray, List.length_cons, List.length_nil, Bool.false_and, Bool.true_and, Bool.or_false, Bool.false_or, Bool.and_false, Bool.and_true], by simp (disch := first | (simp only [go_sem, Bool.and_self, eq_self]; done) | omega | (simp only [List.length_cons, List.length_nil]; omega)) only [go_sem, ↓reduceIte, Nat.reduceEqDiff, Nat.reduceAdd, Nat.reduceMul, Nat.reduceSub, Int.reduceToNat, Nat.reduceBEq, List.size_toArray, List.length_cons, List.length_nil, Bool.false_and, Bool.true_and, Bool.or_false, Bool.false_or, Bool.and_false, Bool.and_true]⟩
theorem k71 (a b : Int) (ha : 0 ≤ a ∧ a ≤ big) (hb : 0 ≤ b ∧ b ≤ big) : ConW Try.prog cfg 71 h (some ([I a, I b], h')) K = K (I (gcdI a b)) h := ConW_num (f71_con a b ha hb) rfl
theorem gcdI_abs (a b : Int) (m : Int) (hm : (a.natAbs : Int) = m) : gcdI m b = gcdI a b := by
  subst hm; rfl
theorem f53_con (a b : Int) (ha : -big ≤ a ∧ a ≤ big) (hb : -big ≤ b ∧ b ≤ big) (hb0 : b ≠ 0) : Con Try.prog cfg 53 [I a, I b] (FR (rdP a b)) := by
  have hg := gcdI_pos (a := a) hb0
  have dl : gcdI a b ∣ a := Int.gcd_dvd_left a b
  have dr : gcdI a b ∣ b := Int.gcd_dvd_right a b
  have g0 : ¬ gcdI a b = 0 := by omega
  have r1 := div_rng hg dl
  have r2 := div_rng hg dr
  simp only [big] at ha hb
  by_cases hn : b < 0
  · have hr : rdP a b = (-a / gcdI a b, -b / gcdI a b) := by simp [rdP, hn]
    have hmx : max (0 - a) (0 - (0 - a)) = ((0 - a).natAbs : Int) := by omega
    have kg := fun h h' K => k71 (h := h) (h' := h') (K := K) (max (0 - a) (0 - (0 - a))) (0 - b) (by simp only [big]; omega) (by simp only [big]; omega)
    have e0 : gcdI (max (0 - a) (0 - (0 - a))) (0 - b) = gcdI a b := by rw [gcdI_abs (0 - a) (0 - b) _ hmx.symm, Int.zero_sub, Int.zero_sub, gcdI_neg]
    rw [e0] at kg
    have t1 : (0 - a).tdiv (gcdI a b) = -a / gcdI a b := by rw [Int.zero_sub, Int.tdiv_eq_ediv_of_dvd ((Int.dvd_neg).2 dl)]
    have t2 : (0 - b).tdiv (gcdI a b) = -b / gcdI a b := by rw [Int.zero_sub, Int.tdiv_eq_ediv_of_dvd ((Int.dvd_neg).2 dr)]
    have q1 := div_rng hg ((Int.dvd_neg).2 dl)
    have q2 := div_rng hg ((Int.dvd_neg).2 dr)
    rw [hr]
    refine Con_intro Try.func53 rfl ok53 (Nat.le_of_ble_eq_true rfl) rfl ?_
    simp only [Try.f53, Option.getD_some, initSt2]
    simp (disch := first | (simp only [go_sem, Bool.and_self, eq_self]; done) | omega | (simp only [List.length_cons, List.length_nil]; omega)) only [go_sem, ↓reduceIte, Nat.reduceEqDiff, Nat.reduceAdd, Nat.reduceMul, Nat.reduceSub, Int.reduceToNat, Nat.reduceBEq, List.size_toArray, List.length_cons, List.length_nil, Bool.false_and, Bool.true_and, Bool.or_false, Bool.false_or, Bool.and_false, Bool.and_true, hn, kg, t1, t2, g0]
    rfl
  · have hr : rdP a b = (a / gcdI a b, b / gcdI a b) := by simp [rdP, hn]
    have hmx : max a (0 - a) = (a.natAbs : Int) := by omega
    have kg := fun h h' K => k71 (h := h) (h' := h') (K := K) (max a (0 - a)) b (by simp only [big]; omega) (by simp only [big]; omega)
    rw [gcdI_abs a b _ hmx.symm] at kg
    have t1 := tdiv_gcd_l a b
    have t2 := tdiv_gcd_r a b
    rw [hr]
    refine Con_intro Try.func53 rfl ok53 (Nat.le_of_ble_eq_true rfl) rfl ?_
    simp only [Try.f53, Option.getD_some, initSt2]
    simp (disch := first | (simp only [go_sem, Bool.and_self, eq_self]; done) | omega | (simp only [List.length_cons, List.length_nil]; omega)) only [go_sem, ↓reduceIte, Nat.reduceEqDiff, Nat.reduceAdd, Nat.reduceMul, Nat.reduceSub, Int.reduceToNat, Nat.reduceBEq, List.size_toArray, List.length_cons, List.length_nil, Bool.false_and, Bool.true_and, Bool.or_false, Bool.false_or, Bool.and_false, Bool.and_true, hn, kg, t1, t2, g0]
    rfl
theorem k53 (a b : Int) (ha : -big ≤ a ∧ a ≤ big) (hb : -big ≤ b ∧ b ≤ big) (hb0 : b ≠ 0) : ConW Try.prog cfg 53 h (some ([I a, I b], h')) K = K (FR (rdP a b)) h := ConW_num (f53_con a b ha hb hb0) rfl
end Go.Proofs.Ytgamcclfdkpcgaa

set_option linter.unusedVariables false
set_option linter.unusedSimpArgs false
set_option maxRecDepth 10000
namespace Go.Proofs.Ytgamcclfdkpcgaa
open Go Go.Am

def sumO (o : List (Int × Int)) (F : Int × Int → Int) : Int := sumN (fun i => F (nth o i)) o.length
theorem sumN_le {f g : Nat → Int} : ∀ {n : Nat}, (∀ i, i < n → f i ≤ g i) → sumN f n ≤ sumN g n
  | 0, _ => Int.le_refl _
  | n + 1, h => Int.add_le_add (sumN_le fun i hi => h i (by omega)) (h n (by omega))
theorem sumN_add (f g : Nat → Int) : ∀ n, sumN (fun i => f i + g i) n = sumN f n + sumN g n
  | 0 => rfl
  | n + 1 => by simp only [sumN, sumN_add f g n]; omega
theorem sumN_mul (c : Int) (f : Nat → Int) : ∀ n, sumN (fun i => c * f i) n = c * sumN f n
  | 0 => by simp [sumN]
  | n + 1 => by simp only [sumN, sumN_mul c f n, Int.mul_add]
theorem sumN_zero : ∀ n, sumN (fun _ => 0) n = 0
  | 0 => rfl
  | n + 1 => by simp [sumN, sumN_zero n]
theorem sumN_swap (f : Nat → Nat → Int) (m : Nat) : ∀ n, sumN (fun i => sumN (fun j => f i j) m) n = sumN (fun j => sumN (fun i => f i j) n) m
  | 0 => by simp [sumN, sumN_zero]
  | n + 1 => by simp only [sumN, sumN_swap f m n, sumN_add]
theorem sumO_le {o : List (Int × Int)} {F G : Int × Int → Int} (h : ∀ q ∈ o, F q ≤ G q) : sumO o F ≤ sumO o G := sumN_le fun i hi => h _ (nth_mem hi)
theorem sumO_congr {o : List (Int × Int)} {F G : Int × Int → Int} (h : ∀ q ∈ o, F q = G q) : sumO o F = sumO o G := sumN_congr fun i hi => h _ (nth_mem hi)
theorem sumO_add (o : List (Int × Int)) (F G : Int × Int → Int) : sumO o (fun q => F q + G q) = sumO o F + sumO o G := sumN_add _ _ _
theorem sumO_mul (c : Int) (o : List (Int × Int)) (F : Int × Int → Int) : sumO o (fun q => c * F q) = c * sumO o F := sumN_mul c _ _
theorem sumO_nonneg {o : List (Int × Int)} {F : Int × Int → Int} (h : ∀ q ∈ o, 0 ≤ F q) : 0 ≤ sumO o F := by
  have := sumN_le (f := fun _ => 0) (g := fun i => F (nth o i)) (n := o.length) fun i hi => h _ (nth_mem hi)
  rwa [sumN_zero] at this

/-- An offer. -/
structure OffOK (o : List (Int × Int)) : Prop where
  x : ∀ q ∈ o, (0 ≤ q.1 ∧ q.1 ≤ 1000) ∧ (1 ≤ q.2 ∧ q.2 ≤ 16)
  len : o.length ≤ 8
  sum : sumO o (fun q => q.2) = 16

/-- The mean of the greatest, of the best rule's gain, of a threshold's: as parts of a power of 16. -/
def pw (n : Nat) : Int := 16 ^ n
theorem pw_succ (n : Nat) : pw (n + 1) = 16 * pw n := by rw [pw, pw, Int.pow_succ, Int.mul_comm]
theorem pw_pos (n : Nat) : 0 < pw n := Int.pow_pos (by decide)
def gI : List (List (Int × Int)) → Int → Int
  | [], most => most
  | o :: os, most => sumO o fun q => q.2 * gI os (max most q.1)
def wI : List (List (Int × Int)) → Int
  | [] => 0
  | o :: os => sumO o fun q => q.2 * max (q.1 * pw os.length) (wI os)
def tI (t : Int) : List (List (Int × Int)) → Int
  | [] => 0
  | o :: os => sumO o fun q => q.2 * (if t ≤ q.1 then q.1 * pw os.length else tI t os)

/-- Weighted means lie between bounds. -/
theorem mean_ge {o : List (Int × Int)} (ho : OffOK o) {F : Int × Int → Int} {c : Int} (h : ∀ q ∈ o, c ≤ F q) : 16 * c ≤ sumO o fun q => q.2 * F q := by
  have h1 : sumO o (fun q => c * q.2) = c * 16 := by rw [sumO_mul, ho.sum]
  have h2 : sumO o (fun q => c * q.2) ≤ sumO o fun q => q.2 * F q := sumO_le fun q hq => by
    rw [Int.mul_comm]; exact Int.mul_le_mul_of_nonneg_left (h q hq) (by have := ho.x q hq; omega)
  omega
theorem mean_le {o : List (Int × Int)} (ho : OffOK o) {F : Int × Int → Int} {c : Int} (h : ∀ q ∈ o, F q ≤ c) : (sumO o fun q => q.2 * F q) ≤ 16 * c := by
  have h1 : sumO o (fun q => c * q.2) = c * 16 := by rw [sumO_mul, ho.sum]
  have h2 : (sumO o fun q => q.2 * F q) ≤ sumO o (fun q => c * q.2) := sumO_le fun q hq => by
    rw [Int.mul_comm c]; exact Int.mul_le_mul_of_nonneg_left (h q hq) (by have := ho.x q hq; omega)
  omega
theorem mean_mono {o : List (Int × Int)} (ho : OffOK o) {F G : Int × Int → Int} (h : ∀ q ∈ o, F q ≤ G q) : (sumO o fun q => q.2 * F q) ≤ sumO o fun q => q.2 * G q :=
  sumO_le fun q hq => Int.mul_le_mul_of_nonneg_left (h q hq) (by have := ho.x q hq; omega)

theorem gI_b {l : List (List (Int × Int))} (hl : ∀ o ∈ l, OffOK o) : ∀ most : Int, 0 ≤ most ∧ most ≤ 1000 → most * pw l.length ≤ gI l most ∧ gI l most ≤ 1000 * pw l.length := by
  induction l with
  | nil => intro most h; simp [gI, pw]; omega
  | cons o os ih =>
    intro most h
    have ho := hl o (by simp)
    have ih' := ih fun o h => hl o (by simp [h])
    have hp := pw_pos os.length
    rw [gI, List.length_cons, pw_succ]
    constructor
    · have := mean_ge ho (F := fun q => gI os (max most q.1)) (c := most * pw os.length) fun q hq => by
        have hx := ho.x q hq
        have h1 := (ih' (max most q.1) (by omega)).1
        have h2 : most * pw os.length ≤ max most q.1 * pw os.length := Int.mul_le_mul_of_nonneg_right (by omega) (by omega)
        exact Int.le_trans h2 h1
      grind
    · have := mean_le ho (F := fun q => gI os (max most q.1)) (c := 1000 * pw os.length) fun q hq => by
        have hx := ho.x q hq
        exact (ih' (max most q.1) (by omega)).2
      grind
theorem gI_ge_wI {l : List (List (Int × Int))} (hl : ∀ o ∈ l, OffOK o) : ∀ most : Int, 0 ≤ most ∧ most ≤ 1000 → wI l ≤ gI l most := by
  induction l with
  | nil => intro most h; simp [gI, wI]; omega
  | cons o os ih =>
    intro most h
    have ho := hl o (by simp)
    have hl' : ∀ o ∈ os, OffOK o := fun o h => hl o (by simp [h])
    have hp := pw_pos os.length
    rw [gI, wI]
    refine mean_mono ho fun q hq => ?_
    have hx := ho.x q hq
    have h1 := (gI_b hl' (max most q.1) (by omega)).1
    have h2 := ih hl' (max most q.1) (by omega)
    have h3 : q.1 * pw os.length ≤ max most q.1 * pw os.length := Int.mul_le_mul_of_nonneg_right (by omega) (by omega)
    omega
theorem wI_b {l : List (List (Int × Int))} (hl : ∀ o ∈ l, OffOK o) : 0 ≤ wI l ∧ wI l ≤ 1000 * pw l.length := by
  constructor
  · cases l with
    | nil => simp [wI]
    | cons o os =>
      have ho := hl o (by simp)
      have hp := pw_pos os.length
      rw [wI]
      refine sumO_nonneg fun q hq => ?_
      have hx := ho.x q hq
      have : 0 ≤ q.1 * pw os.length := Int.mul_nonneg (by omega) (by omega)
      exact Int.mul_nonneg (by omega) (by omega)
  · have h1 := gI_ge_wI hl 0 (by decide)
    have h2 := (gI_b hl 0 (by decide)).2
    omega
theorem tI_b {l : List (List (Int × Int))} (hl : ∀ o ∈ l, OffOK o) (t : Int) : 0 ≤ tI t l ∧ tI t l ≤ wI l := by
  induction l with
  | nil => simp [tI, wI]
  | cons o os ih =>
    have ho := hl o (by simp)
    have ih' := ih fun o h => hl o (by simp [h])
    have hp := pw_pos os.length
    rw [tI, wI]
    constructor
    · refine sumO_nonneg fun q hq => ?_
      have hx := ho.x q hq
      have : 0 ≤ q.1 * pw os.length := Int.mul_nonneg (by omega) (by omega)
      refine Int.mul_nonneg (by omega) ?_
      split <;> omega
    · refine mean_mono ho fun q hq => ?_
      split <;> omega

/-! ### The prophet's inequality -/
/-- What the offers exceed G/M by, added up. -/
def exO (M G : Int) (o : List (Int × Int)) : Int := sumO o fun q => q.2 * max (M * q.1 - G) 0
def exI (M G : Int) : List (List (Int × Int)) → Int
  | [] => 0
  | o :: os => pw os.length * exO M G o + 16 * exI M G os
def loO (t : Int) (o : List (Int × Int)) : Int := sumO o fun q => q.2 * (if t ≤ q.1 then 0 else 1)
def loI (t : Int) : List (List (Int × Int)) → Int
  | [] => 1
  | o :: os => loO t o * loI t os
theorem exO_nonneg {o : List (Int × Int)} (ho : OffOK o) (M G : Int) : 0 ≤ exO M G o := sumO_nonneg fun q hq => Int.mul_nonneg (by have := ho.x q hq; omega) (by omega)
theorem loO_b {o : List (Int × Int)} (ho : OffOK o) (t : Int) : 0 ≤ loO t o ∧ loO t o ≤ 16 := by
  constructor
  · exact sumO_nonneg fun q hq => Int.mul_nonneg (by have := ho.x q hq; omega) (by split <;> decide)
  · have := mean_le ho (F := fun q => if t ≤ q.1 then 0 else 1) (c := 1) fun q hq => by
      show (if t ≤ q.1 then (0 : Int) else 1) ≤ 1
      split <;> decide
    exact this
theorem loI_b {l : List (List (Int × Int))} (hl : ∀ o ∈ l, OffOK o) (t : Int) : 0 ≤ loI t l ∧ loI t l ≤ pw l.length := by
  induction l with
  | nil => simp [loI, pw]
  | cons o os ih =>
    have ih' := ih fun o h => hl o (by simp [h])
    have hb := loO_b (hl o (by simp)) t
    have hp := pw_pos os.length
    rw [loI, List.length_cons, pw_succ]
    exact ⟨Int.mul_nonneg hb.1 ih'.1, Int.mul_le_mul hb.2 ih'.2 ih'.1 (by decide)⟩
theorem ex_max {l : List (List (Int × Int))} (hl : ∀ o ∈ l, OffOK o) (M G : Int) (hM : 0 ≤ M) : ∀ most : Int, M * gI l most ≤ pw l.length * max (M * most) G + exI M G l := by
  induction l with
  | nil => intro most; simp [gI, pw, exI]; omega
  | cons o os ih =>
    intro most
    have ho := hl o (by simp)
    have ih' := ih fun o h => hl o (by simp [h])
    have hp := pw_pos os.length
    rw [gI, exI, List.length_cons, pw_succ, ← sumO_mul]
    have h1 : (sumO o fun q => M * (q.2 * gI os (max most q.1))) ≤ sumO o fun q => (q.2 * (pw os.length * max (M * most) G + exI M G os)) + pw os.length * (q.2 * max (M * q.1 - G) 0) := by
      refine sumO_le fun q hq => ?_
      have hx := ho.x q hq
      have i1 := ih' (max most q.1)
      have i2 : max (M * max most q.1) G ≤ max (M * most) G + max (M * q.1 - G) 0 := by
        have : M * max most q.1 = M * most ∨ M * max most q.1 = M * q.1 := by
          rcases Int.le_total most q.1 with h | h
          · right; congr 1; omega
          · left; congr 1; omega
        omega
      have i3 := Int.mul_le_mul_of_nonneg_left i2 (Int.le_of_lt hp)
      have i4 : M * gI os (max most q.1) ≤ pw os.length * (max (M * most) G + max (M * q.1 - G) 0) + exI M G os := by omega
      have i5 := Int.mul_le_mul_of_nonneg_left i4 (show 0 ≤ q.2 by omega)
      grind
    rw [sumO_add, sumO_mul (pw os.length)] at h1
    have h2 : (sumO o fun q => q.2 * (pw os.length * max (M * most) G + exI M G os)) = 16 * (pw os.length * max (M * most) G + exI M G os) := by
      have := sumO_mul (pw os.length * max (M * most) G + exI M G os) o (fun q => q.2)
      rw [ho.sum] at this
      rw [← Int.mul_comm _ 16, ← this]
      exact sumO_congr fun q _ => Int.mul_comm _ _
    rw [h2] at h1
    have h3 : (sumO o fun q => q.2 * max (M * q.1 - G) 0) = exO M G o := rfl
    rw [h3] at h1
    grind
theorem th_step (N G Q S s T β : Int) (hN : 0 ≤ N) (hb : 0 ≤ β ∧ β ≤ 16) (hQ : 0 ≤ Q ∧ Q ≤ N) (hs : 0 ≤ s) (ih : N * G * (N - Q) + Q * S ≤ N * T) :
    16 * N * G * (16 * N - β * Q) + β * Q * (N * s + 16 * S) ≤ 16 * N * (N * s + G * (16 - β) * N + β * T) := by
  have h1 : 16 * β * (N * G * (N - Q) + Q * S) ≤ 16 * β * (N * T) := Int.mul_le_mul_of_nonneg_left ih (by omega)
  have h2 : β * Q ≤ 16 * N := Int.mul_le_mul hb.2 hQ.2 hQ.1 (by omega)
  have h3 : (N * s) * (β * Q) ≤ (N * s) * (16 * N) := Int.mul_le_mul_of_nonneg_left h2 (Int.mul_nonneg hN hs)
  grind
/-- 't': the numbers from G/M on. -/
theorem th_low {l : List (List (Int × Int))} (hl : ∀ o ∈ l, OffOK o) (M G t : Int) (ht : ∀ x, t ≤ x ↔ G ≤ M * x) :
    pw l.length * G * (pw l.length - loI t l) + loI t l * exI M G l ≤ pw l.length * (M * tI t l) := by
  induction l with
  | nil => simp [pw, loI, exI, tI]
  | cons o os ih =>
    have ho := hl o (by simp)
    have hl' : ∀ o ∈ os, OffOK o := fun o h => hl o (by simp [h])
    have ih' := ih hl'
    have hp := pw_pos os.length
    have key : M * tI t (o :: os) = pw os.length * exO M G o + G * (16 - loO t o) * pw os.length + loO t o * (M * tI t os) := by
      rw [tI, exO, loO]
      have e0 : (16 : Int) = sumO o fun q => q.2 := ho.sum.symm
      have e1 : G * (16 - sumO o fun q => q.2 * (if t ≤ q.1 then 0 else 1)) * pw os.length = sumO o fun q => G * pw os.length * (q.2 * (if t ≤ q.1 then 1 else 0)) := by
        have e2 : (16 - sumO o fun q => q.2 * (if t ≤ q.1 then (0 : Int) else 1)) = sumO o fun q => q.2 * (if t ≤ q.1 then 1 else 0) := by
          have e3 := sumO_add o (fun q => q.2 * (if t ≤ q.1 then 1 else 0)) (fun q => q.2 * (if t ≤ q.1 then 0 else 1))
          have e4 : (sumO o fun q => q.2 * (if t ≤ q.1 then 1 else 0) + q.2 * (if t ≤ q.1 then 0 else 1)) = sumO o fun q => q.2 := sumO_congr fun q _ => by split <;> omega
          omega
        rw [e2, sumO_mul]; grind
      have e5 : (sumO o fun q => q.2 * (if t ≤ q.1 then 0 else 1)) * (M * tI t os) = sumO o fun q => M * tI t os * (q.2 * (if t ≤ q.1 then 0 else 1)) := by rw [sumO_mul, Int.mul_comm]
      rw [e1, e5, ← sumO_mul, ← sumO_mul, ← sumO_add, ← sumO_add]
      refine sumO_congr fun q hq => ?_
      have h := ht q.1
      by_cases c : t ≤ q.1
      · have c2 := h.1 c
        rw [if_pos c, if_pos c, if_pos c, show max (M * q.1 - G) 0 = M * q.1 - G by omega]
        grind
      · have c2 : ¬ G ≤ M * q.1 := fun e => c (h.2 e)
        rw [if_neg c, if_neg c, if_neg c, show max (M * q.1 - G) 0 = 0 by omega]
        grind
    rw [key, loI, exI, List.length_cons, pw_succ]
    exact th_step _ _ _ _ _ _ _ (Int.le_of_lt hp) (loO_b ho t) (loI_b hl' t) (exO_nonneg ho M G) ih'
theorem prophet {l : List (List (Int × Int))} (hl : ∀ o ∈ l, OffOK o) (t : Int) (ht : ∀ x, t ≤ x ↔ gI l 0 ≤ 2 * pw l.length * x) : gI l 0 ≤ 2 * tI t l := by
  have hN := pw_pos l.length
  have hG := (gI_b hl 0 (by decide)).1
  rw [Int.zero_mul] at hG
  have h2 := ex_max hl (2 * pw l.length) (gI l 0) (by omega) 0
  rw [Int.mul_zero, show max 0 (gI l 0) = gI l 0 by omega] at h2
  have h1 := th_low hl (2 * pw l.length) (gI l 0) t ht
  have hQ := (loI_b hl t).1
  generalize gI l 0 = G at *
  generalize pw l.length = N at *
  generalize loI t l = Q at *
  generalize exI (2 * N) G l = S at *
  generalize tI t l = T at *
  have h3 : N * G ≤ S := by grind
  have h4 : Q * (N * G) ≤ Q * S := Int.mul_le_mul_of_nonneg_left h3 hQ
  have h5 : N * N * G ≤ N * N * (2 * T) := by grind
  exact Int.le_of_mul_le_mul_left h5 (Int.mul_pos hN hN)

/-! ### The reference's way to the greatest -/
def belO (x : Int) (o : List (Int × Int)) : Int := sumN (fun i => if (nth o i).1 < x then (nth o i).2 else 0) o.length
def belI (x : Int) (l : List (List (Int × Int))) : Int := prodN (fun i => belO x (nth l i)) l.length
theorem prodN_front (f : Nat → Int) : ∀ n, prodN f (n + 1) = f 0 * prodN (fun i => f (i + 1)) n
  | 0 => by simp [prodN]
  | n + 1 => by
    have := prodN_front f n
    rw [prodN, this, prodN, Int.mul_assoc]
theorem belI_cons (x : Int) (o : List (Int × Int)) (os : List (List (Int × Int))) : belI x (o :: os) = belO x o * belI x os := by
  rw [belI, List.length_cons, prodN_front]
  rfl
theorem sumN_cut (m : Nat) : ∀ n, sumN (fun x => if m < x + 1 then 0 else 1) n = ((min m n : Nat) : Int)
  | 0 => by simp [sumN]
  | n + 1 => by
    rw [sumN, sumN_cut m n]
    split <;> omega
theorem great_ref {l : List (List (Int × Int))} (hl : ∀ o ∈ l, OffOK o) : ∀ most : Int, 0 ≤ most ∧ most ≤ 1000 → gI l most = sumN (fun x => pw l.length - (if most < (x : Int) + 1 then belI ((x : Int) + 1) l else 0)) 1000 := by
  induction l with
  | nil =>
    intro most hm
    have h1 : sumN (fun x => pw ([] : List (List (Int × Int))).length - (if most < (x : Int) + 1 then belI ((x : Int) + 1) [] else 0)) 1000 = sumN (fun x => if most.toNat < x + 1 then 0 else 1) 1000 := sumN_congr fun i hi => by
      have e : belI ((i : Int) + 1) [] = 1 := rfl
      have e2 : pw ([] : List (List (Int × Int))).length = 1 := rfl
      rw [e, e2]
      by_cases c : most < (i : Int) + 1
      · rw [if_pos c, if_pos (by omega)]; rfl
      · rw [if_neg c, if_neg (by omega)]; rfl
    rw [h1, sumN_cut, gI]
    omega
  | cons o os ih =>
    intro most hm
    have ho := hl o (by simp)
    have ih' := ih fun o h => hl o (by simp [h])
    have h1 : gI (o :: os) most = sumN (fun k => (nth o k).2 * sumN (fun x => pw os.length - (if max most (nth o k).1 < (x : Int) + 1 then belI ((x : Int) + 1) os else 0)) 1000) o.length := by
      rw [gI]
      refine sumN_congr fun k hk => ?_
      have hx := ho.x _ (nth_mem hk)
      show (nth o k).2 * gI os (max most (nth o k).1) = _
      rw [ih' _ (by omega)]
    rw [h1]
    simp only [← sumN_mul]
    rw [sumN_swap]
    refine sumN_congr fun x hx => ?_
    rw [belI_cons, List.length_cons, pw_succ]
    have e1 : sumN (fun k => (nth o k).2 * (pw os.length - (if max most (nth o k).1 < (x : Int) + 1 then belI ((x : Int) + 1) os else 0))) o.length =
        sumN (fun k => pw os.length * (nth o k).2) o.length - sumN (fun k => (if most < (x : Int) + 1 then belI ((x : Int) + 1) os else 0) * (if (nth o k).1 < (x : Int) + 1 then (nth o k).2 else 0)) o.length := by
      have := sumN_add (fun k => (nth o k).2 * (pw os.length - (if max most (nth o k).1 < (x : Int) + 1 then belI ((x : Int) + 1) os else 0))) (fun k => (if most < (x : Int) + 1 then belI ((x : Int) + 1) os else 0) * (if (nth o k).1 < (x : Int) + 1 then (nth o k).2 else 0)) o.length
      have e2 : sumN (fun k => (nth o k).2 * (pw os.length - (if max most (nth o k).1 < (x : Int) + 1 then belI ((x : Int) + 1) os else 0)) + (if most < (x : Int) + 1 then belI ((x : Int) + 1) os else 0) * (if (nth o k).1 < (x : Int) + 1 then (nth o k).2 else 0)) o.length = sumN (fun k => pw os.length * (nth o k).2) o.length := sumN_congr fun k hk => by
        by_cases c1 : most < (x : Int) + 1
        · by_cases c2 : (nth o k).1 < (x : Int) + 1
          · rw [if_pos c1, if_pos c2, if_pos (by omega)]; grind
          · rw [if_neg c2, if_neg (by omega)]; grind
        · rw [if_neg c1, if_neg (by omega)]; grind
      omega
    have e3 := sumN_mul (pw os.length) (fun k => (nth o k).2) o.length
    have e4 : sumN (fun k => (nth o k).2) o.length = 16 := ho.sum
    rw [e1, e3, e4, sumN_mul]
    show _ - _ * belO ((x : Int) + 1) o = _
    by_cases c1 : most < (x : Int) + 1
    · rw [if_pos c1, if_pos c1]; grind
    · rw [if_neg c1, if_neg c1]; grind
theorem bel_b {l : List (List (Int × Int))} (hl : ∀ o ∈ l, OffOK o) (x : Int) : 0 ≤ belI x l ∧ belI x l ≤ pw l.length := by
  induction l with
  | nil => simp [belI, prodN, pw]
  | cons o os ih =>
    have ih' := ih fun o h => hl o (by simp [h])
    have ho := hl o (by simp)
    have hb : 0 ≤ belO x o ∧ belO x o ≤ 16 := by
      have e : belO x o = sumO o fun q => if q.1 < x then q.2 else 0 := rfl
      rw [e]
      refine ⟨sumO_nonneg fun q hq => ?_, ?_⟩
      · have := ho.x q hq; split <;> omega
      · rw [← ho.sum]; exact sumO_le fun q hq => by have := ho.x q hq; split <;> omega
    rw [belI_cons, List.length_cons, pw_succ]
    exact ⟨Int.mul_nonneg hb.1 ih'.1, Int.mul_le_mul hb.2 ih'.2 ih'.1 (by decide)⟩
end Go.Proofs.Ytgamcclfdkpcgaa

set_option linter.unusedVariables false
set_option linter.unusedSimpArgs false
set_option maxRecDepth 10000
namespace Go.Proofs.Ytgamcclfdkpcgaa
open Go Go.Am

theorem rdP_pos {a b : Int} (hb : 0 < b) : rdP a b = (a / gcdI a b, b / gcdI a b) := by rw [rdP, if_neg (by omega)]
theorem rdP_neg {a b : Int} (hb : b ≠ 0) : rdP (-a) (-b) = rdP a b := by
  unfold rdP
  rw [gcdI_neg]
  rcases Int.lt_or_gt_of_ne hb with h | h
  · rw [if_neg (by omega), if_pos h]
  · rw [if_pos (by omega), if_neg (by omega), Int.neg_neg, Int.neg_neg]
theorem rdP_scale {k : Int} (hk : 0 < k) (a b : Int) (hb : 0 < b) : rdP (k * a) (k * b) = rdP a b := by
  have hg := gcdI_pos (a := a) (b := b) (by omega)
  have e : gcdI (k * a) (k * b) = k * gcdI a b := by
    unfold gcdI
    rw [Int.gcd_mul_left]
    simp only [Int.natCast_mul]
    congr 1; omega
  rw [rdP_pos (Int.mul_pos hk hb), rdP_pos hb, e, Int.mul_ediv_mul_of_pos _ _ hk, Int.mul_ediv_mul_of_pos _ _ hk]
/-- Two fractions that are equal are reduced to the same. -/
theorem rdP_cross {a b c d : Int} (hb : 0 < b) (hd : 0 < d) (h : a * d = c * b) : rdP a b = rdP c d := by
  rw [← rdP_scale hd a b hb, ← rdP_scale hb c d hd, Int.mul_comm d a, h, Int.mul_comm c b, Int.mul_comm d b]
theorem gcdI_dvd (a b : Int) : gcdI a b ∣ a ∧ gcdI a b ∣ b := ⟨Int.gcd_dvd_left a b, Int.gcd_dvd_right a b⟩
/-- A reduced fraction is the same fraction. -/
theorem rdP_val {a b : Int} (hb : 0 < b) : (rdP a b).1 * b = a * (rdP a b).2 := by
  have hg := gcdI_pos (a := a) (b := b) (by omega)
  rw [rdP_pos hb]
  obtain ⟨k, hk⟩ := (gcdI_dvd a b).1
  obtain ⟨m, hm⟩ := (gcdI_dvd a b).2
  generalize gcdI a b = g at *
  subst hk hm
  show g * k / g * (g * m) = g * k * (g * m / g)
  rw [Int.mul_ediv_cancel_left _ (by omega), Int.mul_ediv_cancel_left _ (by omega)]
  grind
theorem rdP_den {a b : Int} (hb : 0 < b) : 0 < (rdP a b).2 ∧ (rdP a b).2 ≤ b := by
  have hg := gcdI_pos (a := a) (b := b) (by omega)
  rw [rdP_pos hb]
  obtain ⟨m, hm⟩ := (gcdI_dvd a b).2
  show 0 < b / gcdI a b ∧ b / gcdI a b ≤ b
  exact ⟨Int.ediv_pos_of_pos_of_dvd hb (by omega) (gcdI_dvd a b).2, Int.ediv_le_self _ (by omega)⟩
theorem rdP_num {a b : Int} (ha : 0 ≤ a) (hb : 0 < b) : 0 ≤ (rdP a b).1 ∧ (rdP a b).1 ≤ a := by
  have hg := gcdI_pos (a := a) (b := b) (by omega)
  rw [rdP_pos hb]
  exact ⟨Int.ediv_nonneg ha (by omega), Int.ediv_le_self _ ha⟩
theorem rdP_one (a : Int) : rdP a 1 = (a, 1) := by
  have : gcdI a 1 = 1 := by unfold gcdI; simp
  rw [rdP_pos (by decide), this]; simp
theorem rdP_zero {b : Int} (hb : 0 < b) : rdP 0 b = (0, 1) := by
  rw [← rdP_one 0]; exact rdP_cross hb (by decide) (by simp)

def lessQ (p q : Int × Int) : Prop := p.1 * q.2 < q.1 * p.2
theorem lessP_rd {a b c d : Int} (hb : 0 < b) (hd : 0 < d) : lessQ (rdP a b) (rdP c d) ↔ a * d < c * b := by
  have h1 := rdP_val (a := a) hb
  have h2 := rdP_val (a := c) hd
  have h3 := rdP_den (a := a) hb
  have h4 := rdP_den (a := c) hd
  generalize rdP a b = p at *
  generalize rdP c d = q at *
  unfold lessQ
  have hbd : 0 < b * d := Int.mul_pos hb hd
  have hpq : 0 < p.2 * q.2 := Int.mul_pos h3.1 h4.1
  have e1 : (p.1 * q.2) * (b * d) = (a * d) * (p.2 * q.2) := by grind
  have e2 : (q.1 * p.2) * (b * d) = (c * b) * (p.2 * q.2) := by grind
  constructor
  · intro h
    have := Int.mul_lt_mul_of_pos_right h hbd
    rw [e1, e2] at this
    exact Int.lt_of_mul_lt_mul_right this (Int.le_of_lt hpq)
  · intro h
    have := Int.mul_lt_mul_of_pos_right h hpq
    rw [← e1, ← e2] at this
    exact Int.lt_of_mul_lt_mul_right this (Int.le_of_lt hbd)
end Go.Proofs.Ytgamcclfdkpcgaa

set_option linter.unusedVariables false
set_option linter.unusedSimpArgs false
set_option maxRecDepth 10000
namespace Go.Proofs.Ytgamcclfdkpcgaa
open Go Go.Am Go.RowKit

variable {h h' : Hp} {K : AV → Hp → Prop}

/-- 1/k + 1/(k+1) + ..: m terms. -/
def pS (k : Nat) : Nat → Int × Int
  | 0 => (0, 1)
  | m + 1 => rdP ((pS k m).1 * ((k + m : Nat) : Int) + (pS k m).2) ((pS k m).2 * ((k + m : Nat) : Int))
def chP (n k : Nat) : Int × Int := if k = 0 then rdP 1 n else rdP ((pS k (n - k)).1 * k) ((pS k (n - k)).2 * n)
def okS (q : Int × Int) : Bool := decide (0 ≤ q.1) && (decide (q.1 ≤ 1099511627776) && (decide (1 ≤ q.2) && decide (q.2 ≤ 1099511627776)))
theorem pS_all : ((List.range 19).all fun k => (List.range (20 - k)).all fun m => okS (pS (k + 1) m)) = true := by kernel_rfl
theorem pS_ok {k m : Nat} (h0 : 0 < k) (hm : k + m ≤ 20) (hk : k < 20) : (0 ≤ (pS k m).1 ∧ (pS k m).1 ≤ 1099511627776) ∧ (1 ≤ (pS k m).2 ∧ (pS k m).2 ≤ 1099511627776) := by
  have a := List.all_eq_true.1 pS_all (k - 1) (by simp; omega)
  have b := List.all_eq_true.1 a m (by simp; omega)
  rw [show k - 1 + 1 = k by omega] at b
  simp only [okS, Bool.and_eq_true, decide_eq_true_eq] at b
  exact ⟨⟨b.1, b.2.1⟩, b.2.2⟩
theorem f51_con {n k : Nat} (h1 : 1 ≤ n) (h2 : n ≤ 20) (h3 : k < n) : Con Try.prog cfg 51 [I n, I k] (FR (chP n k)) := by
  by_cases hk : k = 0
  · subst hk
    have kr := fun h h' K => k70 (h := h) (h' := h') (K := K) 1 n (by simp only [big]; omega) (by simp only [big]; omega) (by omega)
    have hr : chP n 0 = rdP 1 n := rfl
    have z0 : decide (((0 : Nat) : Int) = 0) = true := rfl
    rw [hr]
    generalize rdP 1 n = q at *
    refine Con_intro Try.func51 rfl ok51 (Nat.le_of_ble_eq_true rfl) rfl ?_
    simp only [Try.f51, Option.getD_some, initSt2]
    simp (disch := first | (simp only [go_sem, Bool.and_self, eq_self]; done) | omega | (simp only [List.length_cons, List.length_nil]; omega)) only [go_sem, ↓reduceIte, Nat.reduceEqDiff, Nat.reduceAdd, Nat.reduceMul, Nat.reduceSub, Int.reduceToNat, Nat.reduceBEq, List.size_toArray, List.length_cons, List.length_nil, Bool.false_and, Bool.true_and, Bool.or_false, Bool.false_or, Bool.and_false, Bool.and_true, kr, z0]
    rfl
  have hk0 : ¬ (k : Int) = 0 := by omega
  have hr : chP n k = rdP ((pS k (n - k)).1 * k) ((pS k (n - k)).2 * n) := by simp [chP, hk]
  rw [hr]
  refine Con_intro Try.func51 rfl ok51 (Nat.le_of_ble_eq_true rfl) rfl ?_
  simp only [Try.f51, Option.getD_some, initSt2]
  simp (disch := first | (simp only [go_sem, Bool.and_self, eq_self]; done) | omega | (simp only [List.length_cons, List.length_nil]; omega)) only [go_sem, ↓reduceIte, Nat.reduceEqDiff, Nat.reduceAdd, Nat.reduceMul, Nat.reduceSub, Int.reduceToNat, Nat.reduceBEq, List.size_toArray, List.length_cons, List.length_nil, Bool.false_and, Bool.true_and, Bool.or_false, Bool.false_or, Bool.and_false, Bool.and_true, hk0]
  refine WP_cut (fun st h => st 0 = I n ∧ st 1 = I k ∧ st 4 = .ptr 0 0 ∧ st 5 = .ptr 1 0 ∧ h.nx = 2 ∧ h.bl 0 = some (.cells false false [I 0, I 0]) ∧ h.bl 1 = some (.cells false false [I (pS k (n - k)).1, I (pS k (n - k)).2])) ?_ ?_
  · refine WP_loopK (fun m st h => ∃ j : Nat, m = n - k - j ∧ j ≤ n - k ∧ st 0 = I n ∧ st 1 = I k ∧ st 4 = .ptr 0 0 ∧ st 5 = .ptr 1 0 ∧ st 6 = I ((k + j : Nat) : Int) ∧ h.nx = 2 ∧ h.bl 0 = some (.cells false false [I 0, I 0]) ∧ h.bl 1 = some (.cells false false [I (pS k j).1, I (pS k j).2])) (n - k)
      ⟨0, rfl, Nat.zero_le _, by simp (disch := first | (simp only [go_sem, Bool.and_self, eq_self]; done) | omega | (simp only [List.length_cons, List.length_nil]; omega)) only [go_sem, ↓reduceIte, Nat.reduceEqDiff, Nat.reduceAdd, Nat.reduceMul, Nat.reduceSub, Int.reduceToNat, Nat.reduceBEq, List.size_toArray, List.length_cons, List.length_nil, Bool.false_and, Bool.true_and, Bool.or_false, Bool.false_or, Bool.and_false, Bool.and_true], by simp (disch := first | (simp only [go_sem, Bool.and_self, eq_self]; done) | omega | (simp only [List.length_cons, List.length_nil]; omega)) only [go_sem, ↓reduceIte, Nat.reduceEqDiff, Nat.reduceAdd, Nat.reduceMul, Nat.reduceSub, Int.reduceToNat, Nat.reduceBEq, List.size_toArray, List.length_cons, List.length_nil, Bool.false_and, Bool.true_and, Bool.or_false, Bool.false_or, Bool.and_false, Bool.and_true], by simp (disch := first | (simp only [go_sem, Bool.and_self, eq_self]; done) | omega | (simp only [List.length_cons, List.length_nil]; omega)) only [go_sem, ↓reduceIte, Nat.reduceEqDiff, Nat.reduceAdd, Nat.reduceMul, Nat.reduceSub, Int.reduceToNat, Nat.reduceBEq, List.size_toArray, List.length_cons, List.length_nil, Bool.false_and, Bool.true_and, Bool.or_false, Bool.false_or, Bool.and_false, Bool.and_true], by simp (disch := first | (simp only [go_sem, Bool.and_self, eq_self]; done) | omega | (simp only [List.length_cons, List.length_nil]; omega)) only [go_sem, ↓reduceIte, Nat.reduceEqDiff, Nat.reduceAdd, Nat.reduceMul, Nat.reduceSub, Int.reduceToNat, Nat.reduceBEq, List.size_toArray, List.length_cons, List.length_nil, Bool.false_and, Bool.true_and, Bool.or_false, Bool.false_or, Bool.and_false, Bool.and_true], by simp (disch := first | (simp only [go_sem, Bool.and_self, eq_self]; done) | omega | (simp only [List.length_cons, List.length_nil]; omega)) only [go_sem, ↓reduceIte, Nat.reduceEqDiff, Nat.reduceAdd, Nat.reduceMul, Nat.reduceSub, Int.reduceToNat, Nat.reduceBEq, List.size_toArray, List.length_cons, List.length_nil, Bool.false_and, Bool.true_and, Bool.or_false, Bool.false_or, Bool.and_false, Bool.and_true]; rfl, by simp (disch := first | (simp only [go_sem, Bool.and_self, eq_self]; done) | omega | (simp only [List.length_cons, List.length_nil]; omega)) only [go_sem, ↓reduceIte, Nat.reduceEqDiff, Nat.reduceAdd, Nat.reduceMul, Nat.reduceSub, Int.reduceToNat, Nat.reduceBEq, List.size_toArray, List.length_cons, List.length_nil, Bool.false_and, Bool.true_and, Bool.or_false, Bool.false_or, Bool.and_false, Bool.and_true], by simp (disch := first | (simp only [go_sem, Bool.and_self, eq_self]; done) | omega | (simp only [List.length_cons, List.length_nil]; omega)) only [go_sem, ↓reduceIte, Nat.reduceEqDiff, Nat.reduceAdd, Nat.reduceMul, Nat.reduceSub, Int.reduceToNat, Nat.reduceBEq, List.size_toArray, List.length_cons, List.length_nil, Bool.false_and, Bool.true_and, Bool.or_false, Bool.false_or, Bool.and_false, Bool.and_true], by simp (disch := first | (simp only [go_sem, Bool.and_self, eq_self]; done) | omega | (simp only [List.length_cons, List.length_nil]; omega)) only [go_sem, ↓reduceIte, Nat.reduceEqDiff, Nat.reduceAdd, Nat.reduceMul, Nat.reduceSub, Int.reduceToNat, Nat.reduceBEq, List.size_toArray, List.length_cons, List.length_nil, Bool.false_and, Bool.true_and, Bool.or_false, Bool.false_or, Bool.and_false, Bool.and_true]; rfl⟩ ?_
    rintro m st h ⟨j, rfl, hj, s0, s1, s4, s5, s6, hnx, b0, b1⟩
    by_cases hlt : k + j < n
    case neg =>
      have hlt' : ¬ ((k + j : Nat) : Int) < n := by omega
      have hjj : j = n - k := by omega
      subst hjj
      simp (disch := first | (simp only [go_sem, Bool.and_self, eq_self]; done) | omega | (simp only [List.length_cons, List.length_nil]; omega)) only [go_sem, ↓reduceIte, Nat.reduceEqDiff, Nat.reduceAdd, Nat.reduceMul, Nat.reduceSub, Int.reduceToNat, Nat.reduceBEq, List.size_toArray, List.length_cons, List.length_nil, Bool.false_and, Bool.true_and, Bool.or_false, Bool.false_or, Bool.and_false, Bool.and_true, s0, s1, s4, s5, s6, hlt', b0, b1]
      exact hnx
    have hlt' : ((k + j : Nat) : Int) < n := by omega
    obtain ⟨p1, p2⟩ := pS_ok (k := k) (m := j) (by omega) (by omega) (by omega)
    obtain ⟨p3, p4⟩ := pS_ok (k := k) (m := j + 1) (by omega) (by omega) (by omega)
    have hstep : pS k (j + 1) = rdP ((pS k j).1 * ((k + j : Nat) : Int) + (pS k j).2) ((pS k j).2 * ((k + j : Nat) : Int)) := rfl
    rw [hstep] at p3 p4
    generalize (pS k j).1 = a at *
    generalize (pS k j).2 = b at *
    obtain ⟨i, hi⟩ : ∃ i : Nat, i = k + j := ⟨_, rfl⟩
    have hib : 1 ≤ i ∧ i ≤ 19 := by omega
    rw [← hi] at s6 hlt' hstep p3 p4
    have m1 : 0 ≤ a * i ∧ a * i ≤ 1099511627776 * 20 := ⟨Int.mul_nonneg p1.1 (by omega), Int.mul_le_mul p1.2 (by omega) (by omega) (by omega)⟩
    have m2 : 0 < b * i ∧ b * i ≤ 1099511627776 * 20 := ⟨Int.mul_pos (by omega) (by omega), Int.mul_le_mul p2.2 (by omega) (by omega) (by omega)⟩
    have kr := fun h h' K => k70 (h := h) (h' := h') (K := K) (a * i + b) (b * i) (by simp only [big]; omega) (by simp only [big]; omega) (by omega)
    generalize rdP (a * i + b) (b * i) = q at *
    simp (disch := first | (simp only [go_sem, Bool.and_self, eq_self]; done) | omega | (simp only [List.length_cons, List.length_nil]; omega)) only [go_sem, ↓reduceIte, Nat.reduceEqDiff, Nat.reduceAdd, Nat.reduceMul, Nat.reduceSub, Int.reduceToNat, Nat.reduceBEq, List.size_toArray, List.length_cons, List.length_nil, Bool.false_and, Bool.true_and, Bool.or_false, Bool.false_or, Bool.and_false, Bool.and_true, s0, s1, s4, s5, s6, hlt', b0, b1, hnx, kr]
    rw [LoopK_normal]
    exact ⟨n - k - (j + 1), by omega, j + 1, rfl, by omega, by simp (disch := first | (simp only [go_sem, Bool.and_self, eq_self]; done) | omega | (simp only [List.length_cons, List.length_nil]; omega)) only [go_sem, ↓reduceIte, Nat.reduceEqDiff, Nat.reduceAdd, Nat.reduceMul, Nat.reduceSub, Int.reduceToNat, Nat.reduceBEq, List.size_toArray, List.length_cons, List.length_nil, Bool.false_and, Bool.true_and, Bool.or_false, Bool.false_or, Bool.and_false, Bool.and_true, s0], by simp (disch := first | (simp only [go_sem, Bool.and_self, eq_self]; done) | omega | (simp only [List.length_cons, List.length_nil]; omega)) only [go_sem, ↓reduceIte, Nat.reduceEqDiff, Nat.reduceAdd, Nat.reduceMul, Nat.reduceSub, Int.reduceToNat, Nat.reduceBEq, List.size_toArray, List.length_cons, List.length_nil, Bool.false_and, Bool.true_and, Bool.or_false, Bool.false_or, Bool.and_false, Bool.and_true, s1], by simp (disch := first | (simp only [go_sem, Bool.and_self, eq_self]; done) | omega | (simp only [List.length_cons, List.length_nil]; omega)) only [go_sem, ↓reduceIte, Nat.reduceEqDiff, Nat.reduceAdd, Nat.reduceMul, Nat.reduceSub, Int.reduceToNat, Nat.reduceBEq, List.size_toArray, List.length_cons, List.length_nil, Bool.false_and, Bool.true_and, Bool.or_false, Bool.false_or, Bool.and_false, Bool.and_true, s4], by simp (disch := first | (simp only [go_sem, Bool.and_self, eq_self]; done) | omega | (simp only [List.length_cons, List.length_nil]; omega)) only [go_sem, ↓reduceIte, Nat.reduceEqDiff, Nat.reduceAdd, Nat.reduceMul, Nat.reduceSub, Int.reduceToNat, Nat.reduceBEq, List.size_toArray, List.length_cons, List.length_nil, Bool.false_and, Bool.true_and, Bool.or_false, Bool.false_or, Bool.and_false, Bool.and_true, s5], (by simp (disch := first | (simp only [go_sem, Bool.and_self, eq_self]; done) | omega | (simp only [List.length_cons, List.length_nil]; omega)) only [go_sem, ↓reduceIte, Nat.reduceEqDiff, Nat.reduceAdd, Nat.reduceMul, Nat.reduceSub, Int.reduceToNat, Nat.reduceBEq, List.size_toArray, List.length_cons, List.length_nil, Bool.false_and, Bool.true_and, Bool.or_false, Bool.false_or, Bool.and_false, Bool.and_true]; congr 1; omega), by simp (disch := first | (simp only [go_sem, Bool.and_self, eq_self]; done) | omega | (simp only [List.length_cons, List.length_nil]; omega)) only [go_sem, ↓reduceIte, Nat.reduceEqDiff, Nat.reduceAdd, Nat.reduceMul, Nat.reduceSub, Int.reduceToNat, Nat.reduceBEq, List.size_toArray, List.length_cons, List.length_nil, Bool.false_and, Bool.true_and, Bool.or_false, Bool.false_or, Bool.and_false, Bool.and_true, hnx], by simp (disch := first | (simp only [go_sem, Bool.and_self, eq_self]; done) | omega | (simp only [List.length_cons, List.length_nil]; omega)) only [go_sem, ↓reduceIte, Nat.reduceEqDiff, Nat.reduceAdd, Nat.reduceMul, Nat.reduceSub, Int.reduceToNat, Nat.reduceBEq, List.size_toArray, List.length_cons, List.length_nil, Bool.false_and, Bool.true_and, Bool.or_false, Bool.false_or, Bool.and_false, Bool.and_true, b0], by rw [hstep]; simp (disch := first | (simp only [go_sem, Bool.and_self, eq_self]; done) | omega | (simp only [List.length_cons, List.length_nil]; omega)) only [go_sem, ↓reduceIte, Nat.reduceEqDiff, Nat.reduceAdd, Nat.reduceMul, Nat.reduceSub, Int.reduceToNat, Nat.reduceBEq, List.size_toArray, List.length_cons, List.length_nil, Bool.false_and, Bool.true_and, Bool.or_false, Bool.false_or, Bool.and_false, Bool.and_true]⟩
  · rintro st h ⟨s0, s1, s4, s5, hnx, b0, b1⟩
    obtain ⟨p1, p2⟩ := pS_ok (k := k) (m := n - k) (by omega) (by omega) (by omega)
    generalize (pS k (n - k)).1 = a at *
    generalize (pS k (n - k)).2 = b at *
    have m1 : 0 ≤ a * k ∧ a * k ≤ 1099511627776 * 20 := ⟨Int.mul_nonneg p1.1 (by omega), Int.mul_le_mul p1.2 (by omega) (by omega) (by omega)⟩
    have m2 : 0 < b * n ∧ b * n ≤ 1099511627776 * 20 := ⟨Int.mul_pos (by omega) (by omega), Int.mul_le_mul p2.2 (by omega) (by omega) (by omega)⟩
    have kr := fun h h' K => k70 (h := h) (h' := h') (K := K) (a * k) (b * n) (by simp only [big]; omega) (by simp only [big]; omega) (by omega)
    generalize rdP (a * k) (b * n) = q at *
    simp (disch := first | (simp only [go_sem, Bool.and_self, eq_self]; done) | omega | (simp only [List.length_cons, List.length_nil]; omega)) only [go_sem, ↓reduceIte, Nat.reduceEqDiff, Nat.reduceAdd, Nat.reduceMul, Nat.reduceSub, Int.reduceToNat, Nat.reduceBEq, List.size_toArray, List.length_cons, List.length_nil, Bool.false_and, Bool.true_and, Bool.or_false, Bool.false_or, Bool.and_false, Bool.and_true, s0, s1, s4, s5, b0, b1, hnx, kr]
    rfl
theorem k51 {n k : Nat} (h1 : 1 ≤ n) (h2 : n ≤ 20) (h3 : k < n) : ConW Try.prog cfg 51 h (some ([I n, I k], h')) K = K (FR (chP n k)) h := ConW_num (f51_con h1 h2 h3) rfl

/-! ### The reference's -/
def rS (k : Nat) : Nat → Int
  | 0 => 0
  | m + 1 => rS k m + 232792560 / ((k + m : Nat) : Int)
def rcP (n k : Nat) : Int × Int := if k = 0 then (1, (n : Int)) else rdP (k * rS k (n - k)) (n * 232792560)
theorem ch_all : ((List.range 20).all fun n => (List.range (n + 1)).all fun k => decide (chP (n + 1) k = rcP (n + 1) k)) = true := by kernel_rfl
theorem in_tab {P : Nat → Nat → Bool} (h : ((List.range 20).all fun i => (List.range (i + 1)).all fun k => P (i + 1) k) = true) {n k : Nat} (h1 : 1 ≤ n) (h2 : n ≤ 20) (h3 : k < n) : P n k = true := by
  have a := List.all_eq_true.1 h (n - 1) (by simp; omega)
  have b := List.all_eq_true.1 a k (by simp; omega)
  rwa [show n - 1 + 1 = n by omega] at b
theorem ch_ref {n k : Nat} (h1 : 1 ≤ n) (h2 : n ≤ 20) (h3 : k < n) : chP n k = rcP n k := of_decide_eq_true (in_tab (P := fun n k => decide (chP n k = rcP n k)) ch_all h1 h2 h3)
theorem rS_bounds (k m : Nat) (h0 : 0 < k) : 0 ≤ rS k m ∧ rS k m ≤ m * 232792560 := by
  induction m with
  | zero => simp [rS]
  | succ m ih =>
    have h1 : 0 ≤ 232792560 / ((k + m : Nat) : Int) := Int.ediv_nonneg (by decide) (by omega)
    have h2 : 232792560 / ((k + m : Nat) : Int) ≤ 232792560 := Int.ediv_le_self _ (by decide)
    rw [rS]
    generalize (232792560 : Int) / ((k + m : Nat) : Int) = d at *
    omega
theorem f26_con {n k : Nat} (h1 : 1 ≤ n) (h2 : n ≤ 20) (h3 : k < n) : Con Try.prog cfg 26 [I n, I k] (FR (chP n k)) := by
  rw [ch_ref h1 h2 h3]
  by_cases hk : k = 0
  · subst hk
    have hr : rcP n 0 = (1, (n : Int)) := rfl
    have z0 : decide (((0 : Nat) : Int) = 0) = true := rfl
    rw [hr]
    refine Con_intro Try.func26 rfl ok26 (Nat.le_of_ble_eq_true rfl) rfl ?_
    simp only [Try.f26, Option.getD_some, initSt2]
    simp (disch := first | (simp only [go_sem, Bool.and_self, eq_self]; done) | omega | (simp only [List.length_cons, List.length_nil]; omega)) only [go_sem, ↓reduceIte, Nat.reduceEqDiff, Nat.reduceAdd, Nat.reduceMul, Nat.reduceSub, Int.reduceToNat, Nat.reduceBEq, List.size_toArray, List.length_cons, List.length_nil, Bool.false_and, Bool.true_and, Bool.or_false, Bool.false_or, Bool.and_false, Bool.and_true, z0]
    rfl
  have hk0 : ¬ (k : Int) = 0 := by omega
  have hr : rcP n k = rdP (k * rS k (n - k)) (n * 232792560) := by simp [rcP, hk]
  rw [hr]
  refine Con_intro Try.func26 rfl ok26 (Nat.le_of_ble_eq_true rfl) rfl ?_
  simp only [Try.f26, Option.getD_some, initSt2]
  simp (disch := first | (simp only [go_sem, Bool.and_self, eq_self]; done) | omega | (simp only [List.length_cons, List.length_nil]; omega)) only [go_sem, ↓reduceIte, Nat.reduceEqDiff, Nat.reduceAdd, Nat.reduceMul, Nat.reduceSub, Int.reduceToNat, Nat.reduceBEq, List.size_toArray, List.length_cons, List.length_nil, Bool.false_and, Bool.true_and, Bool.or_false, Bool.false_or, Bool.and_false, Bool.and_true, hk0]
  refine WP_cut (fun st h => st 0 = I n ∧ st 1 = I k ∧ st 4 = .ptr 0 0 ∧ st 5 = I 232792560 ∧ h.bl 0 = some (.cells false false [I 0, I 0]) ∧ st 6 = I (rS k (n - k))) ?_ ?_
  · refine WP_loopK (fun m st h => ∃ j : Nat, m = n - k - j ∧ j ≤ n - k ∧ st 0 = I n ∧ st 1 = I k ∧ st 4 = .ptr 0 0 ∧ st 5 = I 232792560 ∧ st 7 = I ((k + j : Nat) : Int) ∧ h.bl 0 = some (.cells false false [I 0, I 0]) ∧ st 6 = I (rS k j)) (n - k)
      ⟨0, rfl, Nat.zero_le _, by simp (disch := first | (simp only [go_sem, Bool.and_self, eq_self]; done) | omega | (simp only [List.length_cons, List.length_nil]; omega)) only [go_sem, ↓reduceIte, Nat.reduceEqDiff, Nat.reduceAdd, Nat.reduceMul, Nat.reduceSub, Int.reduceToNat, Nat.reduceBEq, List.size_toArray, List.length_cons, List.length_nil, Bool.false_and, Bool.true_and, Bool.or_false, Bool.false_or, Bool.and_false, Bool.and_true], by simp (disch := first | (simp only [go_sem, Bool.and_self, eq_self]; done) | omega | (simp only [List.length_cons, List.length_nil]; omega)) only [go_sem, ↓reduceIte, Nat.reduceEqDiff, Nat.reduceAdd, Nat.reduceMul, Nat.reduceSub, Int.reduceToNat, Nat.reduceBEq, List.size_toArray, List.length_cons, List.length_nil, Bool.false_and, Bool.true_and, Bool.or_false, Bool.false_or, Bool.and_false, Bool.and_true], by simp (disch := first | (simp only [go_sem, Bool.and_self, eq_self]; done) | omega | (simp only [List.length_cons, List.length_nil]; omega)) only [go_sem, ↓reduceIte, Nat.reduceEqDiff, Nat.reduceAdd, Nat.reduceMul, Nat.reduceSub, Int.reduceToNat, Nat.reduceBEq, List.size_toArray, List.length_cons, List.length_nil, Bool.false_and, Bool.true_and, Bool.or_false, Bool.false_or, Bool.and_false, Bool.and_true], by simp (disch := first | (simp only [go_sem, Bool.and_self, eq_self]; done) | omega | (simp only [List.length_cons, List.length_nil]; omega)) only [go_sem, ↓reduceIte, Nat.reduceEqDiff, Nat.reduceAdd, Nat.reduceMul, Nat.reduceSub, Int.reduceToNat, Nat.reduceBEq, List.size_toArray, List.length_cons, List.length_nil, Bool.false_and, Bool.true_and, Bool.or_false, Bool.false_or, Bool.and_false, Bool.and_true], by simp (disch := first | (simp only [go_sem, Bool.and_self, eq_self]; done) | omega | (simp only [List.length_cons, List.length_nil]; omega)) only [go_sem, ↓reduceIte, Nat.reduceEqDiff, Nat.reduceAdd, Nat.reduceMul, Nat.reduceSub, Int.reduceToNat, Nat.reduceBEq, List.size_toArray, List.length_cons, List.length_nil, Bool.false_and, Bool.true_and, Bool.or_false, Bool.false_or, Bool.and_false, Bool.and_true]; rfl, by simp (disch := first | (simp only [go_sem, Bool.and_self, eq_self]; done) | omega | (simp only [List.length_cons, List.length_nil]; omega)) only [go_sem, ↓reduceIte, Nat.reduceEqDiff, Nat.reduceAdd, Nat.reduceMul, Nat.reduceSub, Int.reduceToNat, Nat.reduceBEq, List.size_toArray, List.length_cons, List.length_nil, Bool.false_and, Bool.true_and, Bool.or_false, Bool.false_or, Bool.and_false, Bool.and_true], by simp (disch := first | (simp only [go_sem, Bool.and_self, eq_self]; done) | omega | (simp only [List.length_cons, List.length_nil]; omega)) only [go_sem, ↓reduceIte, Nat.reduceEqDiff, Nat.reduceAdd, Nat.reduceMul, Nat.reduceSub, Int.reduceToNat, Nat.reduceBEq, List.size_toArray, List.length_cons, List.length_nil, Bool.false_and, Bool.true_and, Bool.or_false, Bool.false_or, Bool.and_false, Bool.and_true]; rfl⟩ ?_
    rintro m st h ⟨j, rfl, hj, s0, s1, s4, s5, s7, b0, s6⟩
    by_cases hlt : k + j < n
    case neg =>
      have hlt' : ¬ ((k + j : Nat) : Int) < n := by omega
      have hjj : j = n - k := by omega
      subst hjj
      simp (disch := first | (simp only [go_sem, Bool.and_self, eq_self]; done) | omega | (simp only [List.length_cons, List.length_nil]; omega)) only [go_sem, ↓reduceIte, Nat.reduceEqDiff, Nat.reduceAdd, Nat.reduceMul, Nat.reduceSub, Int.reduceToNat, Nat.reduceBEq, List.size_toArray, List.length_cons, List.length_nil, Bool.false_and, Bool.true_and, Bool.or_false, Bool.false_or, Bool.and_false, Bool.and_true, s0, s1, s4, s5, s6, s7, hlt', b0]
    have hlt' : ((k + j : Nat) : Int) < n := by omega
    have hb1 := rS_bounds k j (by omega)
    have hb2 := rS_bounds k (j + 1) (by omega)
    have hstep : rS k (j + 1) = rS k j + 232792560 / ((k + j : Nat) : Int) := rfl
    have hj20 : ((j + 1 : Nat) : Int) * 232792560 ≤ 21 * 232792560 := by omega
    rw [hstep] at hb2
    obtain ⟨i, hi⟩ : ∃ i : Nat, i = k + j := ⟨_, rfl⟩
    have hib : 1 ≤ i ∧ i ≤ 19 := by omega
    rw [← hi] at s7 hlt' hstep hb2
    have hi0 : ¬ (i : Int) = 0 := by omega
    have ht : (232792560 : Int).tdiv i = 232792560 / (i : Int) := Int.tdiv_eq_ediv_of_nonneg (by decide)
    have hd1 : 0 ≤ 232792560 / (i : Int) := Int.ediv_nonneg (by decide) (by omega)
    have hd2 : 232792560 / (i : Int) ≤ 232792560 := Int.ediv_le_self _ (by decide)
    generalize (232792560 : Int) / (i : Int) = d at *
    generalize rS k j = sj at *
    simp (disch := first | (simp only [go_sem, Bool.and_self, eq_self]; done) | omega | (simp only [List.length_cons, List.length_nil]; omega)) only [go_sem, ↓reduceIte, Nat.reduceEqDiff, Nat.reduceAdd, Nat.reduceMul, Nat.reduceSub, Int.reduceToNat, Nat.reduceBEq, List.size_toArray, List.length_cons, List.length_nil, Bool.false_and, Bool.true_and, Bool.or_false, Bool.false_or, Bool.and_false, Bool.and_true, s0, s1, s4, s5, s6, s7, hlt', b0, hi0, ht]
    rw [LoopK_normal]
    exact ⟨n - k - (j + 1), by omega, j + 1, rfl, by omega, by simp (disch := first | (simp only [go_sem, Bool.and_self, eq_self]; done) | omega | (simp only [List.length_cons, List.length_nil]; omega)) only [go_sem, ↓reduceIte, Nat.reduceEqDiff, Nat.reduceAdd, Nat.reduceMul, Nat.reduceSub, Int.reduceToNat, Nat.reduceBEq, List.size_toArray, List.length_cons, List.length_nil, Bool.false_and, Bool.true_and, Bool.or_false, Bool.false_or, Bool.and_false, Bool.and_true, s0], by simp (disch := first | (simp only [go_sem, Bool.and_self, eq_self]; done) | omega | (simp only [List.length_cons, List.length_nil]; omega)) only [go_sem, ↓reduceIte, Nat.reduceEqDiff, Nat.reduceAdd, Nat.reduceMul, Nat.reduceSub, Int.reduceToNat, Nat.reduceBEq, List.size_toArray, List.length_cons, List.length_nil, Bool.false_and, Bool.true_and, Bool.or_false, Bool.false_or, Bool.and_false, Bool.and_true, s1], by simp (disch := first | (simp only [go_sem, Bool.and_self, eq_self]; done) | omega | (simp only [List.length_cons, List.length_nil]; omega)) only [go_sem, ↓reduceIte, Nat.reduceEqDiff, Nat.reduceAdd, Nat.reduceMul, Nat.reduceSub, Int.reduceToNat, Nat.reduceBEq, List.size_toArray, List.length_cons, List.length_nil, Bool.false_and, Bool.true_and, Bool.or_false, Bool.false_or, Bool.and_false, Bool.and_true, s4], by simp (disch := first | (simp only [go_sem, Bool.and_self, eq_self]; done) | omega | (simp only [List.length_cons, List.length_nil]; omega)) only [go_sem, ↓reduceIte, Nat.reduceEqDiff, Nat.reduceAdd, Nat.reduceMul, Nat.reduceSub, Int.reduceToNat, Nat.reduceBEq, List.size_toArray, List.length_cons, List.length_nil, Bool.false_and, Bool.true_and, Bool.or_false, Bool.false_or, Bool.and_false, Bool.and_true, s5], (by simp (disch := first | (simp only [go_sem, Bool.and_self, eq_self]; done) | omega | (simp only [List.length_cons, List.length_nil]; omega)) only [go_sem, ↓reduceIte, Nat.reduceEqDiff, Nat.reduceAdd, Nat.reduceMul, Nat.reduceSub, Int.reduceToNat, Nat.reduceBEq, List.size_toArray, List.length_cons, List.length_nil, Bool.false_and, Bool.true_and, Bool.or_false, Bool.false_or, Bool.and_false, Bool.and_true]; congr 1; omega), by simp (disch := first | (simp only [go_sem, Bool.and_self, eq_self]; done) | omega | (simp only [List.length_cons, List.length_nil]; omega)) only [go_sem, ↓reduceIte, Nat.reduceEqDiff, Nat.reduceAdd, Nat.reduceMul, Nat.reduceSub, Int.reduceToNat, Nat.reduceBEq, List.size_toArray, List.length_cons, List.length_nil, Bool.false_and, Bool.true_and, Bool.or_false, Bool.false_or, Bool.and_false, Bool.and_true, b0], by rw [hstep]; simp (disch := first | (simp only [go_sem, Bool.and_self, eq_self]; done) | omega | (simp only [List.length_cons, List.length_nil]; omega)) only [go_sem, ↓reduceIte, Nat.reduceEqDiff, Nat.reduceAdd, Nat.reduceMul, Nat.reduceSub, Int.reduceToNat, Nat.reduceBEq, List.size_toArray, List.length_cons, List.length_nil, Bool.false_and, Bool.true_and, Bool.or_false, Bool.false_or, Bool.and_false, Bool.and_true]⟩
  · rintro st h ⟨s0, s1, s4, s5, b0, s6⟩
    have hb1 := rS_bounds k (n - k) (by omega)
    have hj20 : ((n - k : Nat) : Int) * 232792560 ≤ 20 * 232792560 := by omega
    generalize rS k (n - k) = a at *
    have m1 : 0 ≤ (k : Int) * a ∧ (k : Int) * a ≤ 20 * (20 * 232792560) := ⟨Int.mul_nonneg (by omega) hb1.1, Int.mul_le_mul (by omega) (by omega) hb1.1 (by omega)⟩
    have kr := fun h h' K => k53 (h := h) (h' := h') (K := K) (k * a) (n * 232792560) (by simp only [big]; omega) (by simp only [big]; omega) (by omega)
    generalize rdP (k * a) (n * 232792560) = q at *
    simp (disch := first | (simp only [go_sem, Bool.and_self, eq_self]; done) | omega | (simp only [List.length_cons, List.length_nil]; omega)) only [go_sem, ↓reduceIte, Nat.reduceEqDiff, Nat.reduceAdd, Nat.reduceMul, Nat.reduceSub, Int.reduceToNat, Nat.reduceBEq, List.size_toArray, List.length_cons, List.length_nil, Bool.false_and, Bool.true_and, Bool.or_false, Bool.false_or, Bool.and_false, Bool.and_true, s0, s1, s4, s5, s6, b0, kr]
    rfl
theorem k26 {n k : Nat} (h1 : 1 ≤ n) (h2 : n ≤ 20) (h3 : k < n) : ConW Try.prog cfg 26 h (some ([I n, I k], h')) K = K (FR (chP n k)) h := ConW_num (f26_con h1 h2 h3) rfl

/-! ### Comparing -/
def lessP (p q : Int × Int) : Bool := decide (p.1 * q.2 < q.1 * p.2)
theorem f20_con (p q : Int × Int) (h1 : -big ≤ p.1 * q.2 ∧ p.1 * q.2 ≤ big) (h2 : -big ≤ q.1 * p.2 ∧ q.1 * p.2 ≤ big) : Con Try.prog cfg 20 [FR p, FR q] (.bool (lessP p q)) := by
  have hal : ∀ (g : Hp) (x y : Int), allocB g (some (.agg [I x, I y])) = some (.ptr g.nx 0, g.alloc (.cells false false [I x, I y])) := fun g x y => allocB_agg _ rfl
  simp only [big] at h1 h2
  rw [lessP]
  refine Con_intro Try.func20 rfl ok20 (Nat.le_of_ble_eq_true rfl) rfl ?_
  simp only [Try.f20, Option.getD_some, initSt2]
  simp (disch := first | (simp only [go_sem, Bool.and_self, eq_self]; done) | omega | (simp only [List.length_cons, List.length_nil]; omega)) only [go_sem, ↓reduceIte, Nat.reduceEqDiff, Nat.reduceAdd, Nat.reduceMul, Nat.reduceSub, Int.reduceToNat, Nat.reduceBEq, List.size_toArray, List.length_cons, List.length_nil, Bool.false_and, Bool.true_and, Bool.or_false, Bool.false_or, Bool.and_false, Bool.and_true, hal]
def cmpP (p q : Int × Int) : Int := if p.1 * q.2 < q.1 * p.2 then -1 else if q.1 * p.2 < p.1 * q.2 then 1 else 0
theorem f52_con (p q : Int × Int) (h1 : -big ≤ p.1 * q.2 ∧ p.1 * q.2 ≤ big) (h2 : -big ≤ q.1 * p.2 ∧ q.1 * p.2 ≤ big) : Con Try.prog cfg 52 [FR p, FR q] (I (cmpP p q)) := by
  have hal : ∀ (g : Hp) (x y : Int), allocB g (some (.agg [I x, I y])) = some (.ptr g.nx 0, g.alloc (.cells false false [I x, I y])) := fun g x y => allocB_agg _ rfl
  simp only [big] at h1 h2
  by_cases c1 : p.1 * q.2 < q.1 * p.2
  · have hr : cmpP p q = -1 := by simp [cmpP, c1]
    rw [hr]
    refine Con_intro Try.func52 rfl ok52 (Nat.le_of_ble_eq_true rfl) rfl ?_
    simp only [Try.f52, Option.getD_some, initSt2]
    simp (disch := first | (simp only [go_sem, Bool.and_self, eq_self]; done) | omega | (simp only [List.length_cons, List.length_nil]; omega)) only [go_sem, ↓reduceIte, Nat.reduceEqDiff, Nat.reduceAdd, Nat.reduceMul, Nat.reduceSub, Int.reduceToNat, Nat.reduceBEq, List.size_toArray, List.length_cons, List.length_nil, Bool.false_and, Bool.true_and, Bool.or_false, Bool.false_or, Bool.and_false, Bool.and_true, hal, c1]
  by_cases c2 : q.1 * p.2 < p.1 * q.2
  · have hr : cmpP p q = 1 := by simp [cmpP, c1, c2]
    rw [hr]
    refine Con_intro Try.func52 rfl ok52 (Nat.le_of_ble_eq_true rfl) rfl ?_
    simp only [Try.f52, Option.getD_some, initSt2]
    simp (disch := first | (simp only [go_sem, Bool.and_self, eq_self]; done) | omega | (simp only [List.length_cons, List.length_nil]; omega)) only [go_sem, ↓reduceIte, Nat.reduceEqDiff, Nat.reduceAdd, Nat.reduceMul, Nat.reduceSub, Int.reduceToNat, Nat.reduceBEq, List.size_toArray, List.length_cons, List.length_nil, Bool.false_and, Bool.true_and, Bool.or_false, Bool.false_or, Bool.and_false, Bool.and_true, hal, c1, c2]
  · have hr : cmpP p q = 0 := by simp [cmpP, c1, c2]
    rw [hr]
    refine Con_intro Try.func52 rfl ok52 (Nat.le_of_ble_eq_true rfl) rfl ?_
    simp only [Try.f52, Option.getD_some, initSt2]
    simp (disch := first | (simp only [go_sem, Bool.and_self, eq_self]; done) | omega | (simp only [List.length_cons, List.length_nil]; omega)) only [go_sem, ↓reduceIte, Nat.reduceEqDiff, Nat.reduceAdd, Nat.reduceMul, Nat.reduceSub, Int.reduceToNat, Nat.reduceBEq, List.size_toArray, List.length_cons, List.length_nil, Bool.false_and, Bool.true_and, Bool.or_false, Bool.false_or, Bool.and_false, Bool.and_true, hal, c1, c2]
end Go.Proofs.Ytgamcclfdkpcgaa

set_option linter.unusedVariables false
set_option linter.unusedSimpArgs false
set_option maxRecDepth 10000
namespace Go.Proofs.Ytgamcclfdkpcgaa
open Go Go.Am

variable {h h' : Hp} {K : AV → Hp → Prop}

instance instLP : RowEnc (e1 LP) 1 := inferInstanceAs (RowEnc (e1 (L eP)) 1)
abbrev LLP : List (List (Int × Int)) → AV := L (e1 LP)
def offRow (l : List (List (Int × Int))) (i : Nat) : List (Int × Int) := (nth l i).take (min (nth l i).length 9)
def offM (l : List (List (Int × Int))) : List (List (Int × Int)) := (List.range (min l.length 8)).map (offRow l)
structure okO (l : List (List (Int × Int))) : Prop where
  len : l.length ≤ maxLen
  row : ∀ o ∈ l, o.length ≤ maxLen
structure smallO (l : List (List (Int × Int))) : Prop where
  len : l.length ≤ 8
  row : ∀ o ∈ l, o.length ≤ 9
theorem offM_small (l : List (List (Int × Int))) : smallO (offM l) := by
  refine ⟨by simp [offM]; omega, fun o ho => ?_⟩
  obtain ⟨i, _, rfl⟩ := List.mem_map.1 ho
  rw [offRow, List.length_take]; omega
theorem f38_con (l : List (List (Int × Int))) (hl : okO l) : Con Try.prog cfg 38 [LLP l] (LLP (offM l)) := by
  have ml : maxLen = 9223372036854775807 := by decide
  have hll := hl.len
  refine Con_intro Try.func38 rfl ok38 (Nat.le_of_ble_eq_true rfl) rfl ?_
  simp only [Try.f38, Option.getD_some, initSt1]
  simp (disch := first | (simp only [go_sem, Bool.and_self, eq_self]; done) | omega | (simp only [List.length_cons, List.length_nil]; omega)) only [go_sem, ↓reduceIte, Nat.reduceEqDiff, Nat.reduceAdd, Nat.reduceMul, Nat.reduceSub, Int.reduceToNat, Nat.reduceBEq, List.size_toArray, List.length_cons, List.length_nil, Bool.false_and, Bool.true_and, Bool.or_false, Bool.false_or, Bool.and_false, Bool.and_true]
  refine WP_cut (fun st h => ∃ v, st 3 = v ∧ Go.Am.Own (e1 LP) 1 h v (offM l)) ?_ ?_
  · refine WP_for 4 (min l.length 8) (fun i st h => st 0 = LLP l ∧ ∃ v, st 3 = v ∧ Go.Am.Own (e1 LP) 1 h v ((List.range i).map (offRow l))) (by simp (disch := first | (simp only [go_sem, Bool.and_self, eq_self]; done) | omega | (simp only [List.length_cons, List.length_nil]; omega)) only [go_sem, ↓reduceIte, Nat.reduceEqDiff, Nat.reduceAdd, Nat.reduceMul, Nat.reduceSub, Int.reduceToNat, Nat.reduceBEq, List.size_toArray, List.length_cons, List.length_nil, Bool.false_and, Bool.true_and, Bool.or_false, Bool.false_or, Bool.and_false, Bool.and_true]) ⟨by simp (disch := first | (simp only [go_sem, Bool.and_self, eq_self]; done) | omega | (simp only [List.length_cons, List.length_nil]; omega)) only [go_sem, ↓reduceIte, Nat.reduceEqDiff, Nat.reduceAdd, Nat.reduceMul, Nat.reduceSub, Int.reduceToNat, Nat.reduceBEq, List.size_toArray, List.length_cons, List.length_nil, Bool.false_and, Bool.true_and, Bool.or_false, Bool.false_or, Bool.and_false, Bool.and_true], .nil, by simp (disch := first | (simp only [go_sem, Bool.and_self, eq_self]; done) | omega | (simp only [List.length_cons, List.length_nil]; omega)) only [go_sem, ↓reduceIte, Nat.reduceEqDiff, Nat.reduceAdd, Nat.reduceMul, Nat.reduceSub, Int.reduceToNat, Nat.reduceBEq, List.size_toArray, List.length_cons, List.length_nil, Bool.false_and, Bool.true_and, Bool.or_false, Bool.false_or, Bool.and_false, Bool.and_true], .inl ⟨rfl, rfl⟩⟩ ?_
    rintro i st h hi s4 ⟨s0, v, s3, how⟩
    by_cases hlt : i < l.length
    case neg =>
      have hie : i = min l.length 8 := by omega
      rw [hie] at how
      simp (disch := first | (simp only [go_sem, Bool.and_self, eq_self]; done) | omega | (simp only [List.length_cons, List.length_nil]; omega)) only [go_sem, ↓reduceIte, Nat.reduceEqDiff, Nat.reduceAdd, Nat.reduceMul, Nat.reduceSub, Int.reduceToNat, Nat.reduceBEq, List.size_toArray, List.length_cons, List.length_nil, Bool.false_and, Bool.true_and, Bool.or_false, Bool.false_or, Bool.and_false, Bool.and_true, s4, s0, s3, hlt]
      exact ⟨_, rfl, how⟩
    by_cases h8 : (i : Int) < 8
    case neg =>
      have hie : i = min l.length 8 := by omega
      rw [hie] at how
      simp (disch := first | (simp only [go_sem, Bool.and_self, eq_self]; done) | omega | (simp only [List.length_cons, List.length_nil]; omega)) only [go_sem, ↓reduceIte, Nat.reduceEqDiff, Nat.reduceAdd, Nat.reduceMul, Nat.reduceSub, Int.reduceToNat, Nat.reduceBEq, List.size_toArray, List.length_cons, List.length_nil, Bool.false_and, Bool.true_and, Bool.or_false, Bool.false_or, Bool.and_false, Bool.and_true, s4, s0, s3, hlt, h8]
      exact ⟨_, rfl, how⟩
    have hrl := hl.row _ (nth_mem hlt)
    have hmin : min ((nth l i).length : Int) 9 = ((min (nth l i).length 9 : Nat) : Int) := by omega
    have htl : (offRow l i).length = min (nth l i).length 9 := by rw [offRow, List.length_take]; omega
    have hrow : (nth l i).take (min (nth l i).length 9) = offRow l i := rfl
    have happ1 := app_nil (P := Try.prog) (h := h) (f := eP) 26 16 (.agg [I 0, I 0]) (LP (offRow l i)) (offRow l i) isz26 ibytes26 izero26 rfl (cellsOf_L _ _) (lenA_L _ _) (by omega) (by omega)
    have hse : sealA (h.alloc (.cells false true ((offRow l i).flatMap eP))) (.sl h.nx 0 (offRow l i).length 2) = some (LP (offRow l i), (h.alloc (.cells false true ((offRow l i).flatMap eP))).put h.nx (some (.cells true true ((offRow l i).flatMap eP)))) := by
      simp (disch := first | (simp only [go_sem, Bool.and_self, eq_self]; done) | omega | (simp only [List.length_cons, List.length_nil]; omega)) only [go_sem, ↓reduceIte, Nat.reduceEqDiff, Nat.reduceAdd, Nat.reduceMul, Nat.reduceSub, Int.reduceToNat, Nat.reduceBEq, List.size_toArray, List.length_cons, List.length_nil, Bool.false_and, Bool.true_and, Bool.or_false, Bool.false_or, Bool.and_false, Bool.and_true]
    have hbs := bsB_one (P := Try.prog) 78 _ (LP (offRow l i)) .nil _ isz78 izero78 rfl rfl rfl hse rfl rfl (pure_L _)
    have how2 : Go.Am.Own (e1 LP) 1 ((h.alloc (.cells false true ((offRow l i).flatMap eP))).put h.nx (some (.cells true true ((offRow l i).flatMap eP)))) v ((List.range i).map (offRow l)) :=
      how.mono (by rw [put_nx, alloc_nx]; omega) fun q hq => by rw [put_bl, if_neg (by omega), alloc_bl, if_neg (by omega)]
    have happ := app_one (P := Try.prog) how2 78 24 .nil (offRow l i) isz78 ibytes78 izero78 rfl (by simp; omega) (by simp; omega)
    simp (disch := first | (simp only [go_sem, Bool.and_self, eq_self]; done) | omega | (simp only [List.length_cons, List.length_nil]; omega)) only [go_sem, ↓reduceIte, Nat.reduceEqDiff, Nat.reduceAdd, Nat.reduceMul, Nat.reduceSub, Int.reduceToNat, Nat.reduceBEq, List.size_toArray, List.length_cons, List.length_nil, Bool.false_and, Bool.true_and, Bool.or_false, Bool.false_or, Bool.and_false, Bool.and_true, s4, s0, s3, hlt, h8, hmin, hrow, happ1, hbs, happ]
    rw [ForK_normal]
    refine ⟨by omega, by simp (disch := first | (simp only [go_sem, Bool.and_self, eq_self]; done) | omega | (simp only [List.length_cons, List.length_nil]; omega)) only [go_sem, ↓reduceIte, Nat.reduceEqDiff, Nat.reduceAdd, Nat.reduceMul, Nat.reduceSub, Int.reduceToNat, Nat.reduceBEq, List.size_toArray, List.length_cons, List.length_nil, Bool.false_and, Bool.true_and, Bool.or_false, Bool.false_or, Bool.and_false, Bool.and_true, s4], by simp (disch := first | (simp only [go_sem, Bool.and_self, eq_self]; done) | omega | (simp only [List.length_cons, List.length_nil]; omega)) only [go_sem, ↓reduceIte, Nat.reduceEqDiff, Nat.reduceAdd, Nat.reduceMul, Nat.reduceSub, Int.reduceToNat, Nat.reduceBEq, List.size_toArray, List.length_cons, List.length_nil, Bool.false_and, Bool.true_and, Bool.or_false, Bool.false_or, Bool.and_false, Bool.and_true, s0], _, by simp (disch := first | (simp only [go_sem, Bool.and_self, eq_self]; done) | omega | (simp only [List.length_cons, List.length_nil]; omega)) only [go_sem, ↓reduceIte, Nat.reduceEqDiff, Nat.reduceAdd, Nat.reduceMul, Nat.reduceSub, Int.reduceToNat, Nat.reduceBEq, List.size_toArray, List.length_cons, List.length_nil, Bool.false_and, Bool.true_and, Bool.or_false, Bool.false_or, Bool.and_false, Bool.and_true]; rfl, ?_⟩
    rw [← rows_snoc]
    exact Own.app _ _ _
  · rintro st h ⟨v, s3, how⟩
    simp (disch := first | (simp only [go_sem, Bool.and_self, eq_self]; done) | omega | (simp only [List.length_cons, List.length_nil]; omega)) only [go_sem, ↓reduceIte, Nat.reduceEqDiff, Nat.reduceAdd, Nat.reduceMul, Nat.reduceSub, Int.reduceToNat, Nat.reduceBEq, List.size_toArray, List.length_cons, List.length_nil, Bool.false_and, Bool.true_and, Bool.or_false, Bool.false_or, Bool.and_false, Bool.and_true, s3]
    exact export_Own (f := e1 LP) 64 how

/-! ### Tests -/
def pairB (q : Int × Int) : Bool := (decide (0 ≤ q.1) && decide (q.1 ≤ 1000)) && (decide (1 ≤ q.2) && decide (q.2 ≤ 16))
def offB (o : List (Int × Int)) : Bool := o.all pairB && (decide (o.length ≤ 8) && decide (sumO o (fun q => q.2) = 16))
def offsB (l : List (List (Int × Int))) : Bool := decide (l.length ≤ 6) && l.all offB
theorem offB_no {l : List (List (Int × Int))} {i : Nat} (hi : i < l.length) (h : offB (nth l i) = false) : offsB l = false := by
  rw [offsB, Bool.and_eq_false_iff]; right
  rw [List.all_eq_false]
  exact ⟨nth l i, nth_mem hi, by rw [h]; decide⟩
theorem pair_no {o : List (Int × Int)} {i : Nat} (hi : i < o.length) (h : pairB (nth o i) = false) : offB o = false := by
  rw [offB, Bool.and_eq_false_iff]; left
  rw [List.all_eq_false]
  exact ⟨nth o i, nth_mem hi, by rw [h]; decide⟩
theorem all_nth {α : Type} [Inhabited α] {p : α → Bool} {xs : List α} (h : ∀ i, i < xs.length → p (nth xs i) = true) : xs.all p = true := by
  refine List.all_eq_true.2 fun x hx => ?_
  obtain ⟨i, hi, rfl⟩ := List.getElem_of_mem hx
  rw [← nth_getElem hi]; exact h i hi
theorem OffOK.of {o : List (Int × Int)} (h : offB o = true) : OffOK o := by
  simp only [offB, Bool.and_eq_true, decide_eq_true_eq, List.all_eq_true] at h
  refine ⟨fun q hq => ?_, h.2.1, h.2.2⟩
  have := h.1 q hq
  simp only [pairB, Bool.and_eq_true, decide_eq_true_eq] at this
  omega
theorem offs_ok {l : List (List (Int × Int))} (h : offsB l = true) : l.length ≤ 6 ∧ ∀ o ∈ l, OffOK o := by
  simp only [offsB, Bool.and_eq_true, decide_eq_true_eq, List.all_eq_true] at h
  exact ⟨h.1, fun o ho => OffOK.of (h.2 o ho)⟩
theorem pair_b {o : List (Int × Int)} {j : Nat} (hj : j ≤ o.length) (h : ∀ i, i < j → pairB (nth o i) = true) : 0 ≤ sumN (fun i => (nth o i).2) j ∧ sumN (fun i => (nth o i).2) j ≤ 16 * j := by
  have := sumN_bounds (f := fun i => (nth o i).2) (lo := 0) (hi := 16) (n := j) fun i hi => by
    have := h i hi
    simp only [pairB, Bool.and_eq_true, decide_eq_true_eq] at this
    omega
  omega

theorem f59_con (l : List (List (Int × Int))) (hs : smallO l) : Con Try.prog cfg 59 [LLP l] (.bool (offsB l)) := by
  have hl8 := hs.len
  have hal : ∀ (g : Hp) (x y : Int), allocB g (some (.agg [I x, I y])) = some (.ptr g.nx 0, g.alloc (.cells false false [I x, I y])) := fun g x y => allocB_agg _ rfl
  by_cases h6 : l.length ≤ 6
  case neg =>
    have hr : offsB l = false := by simp [offsB, h6]
    have h6' : (6 : Int) < l.length := by omega
    refine Con_intro Try.func59 rfl ok59 (Nat.le_of_ble_eq_true rfl) rfl ?_
    simp only [Try.f59, Option.getD_some, initSt1]
    simp (disch := first | (simp only [go_sem, Bool.and_self, eq_self]; done) | omega | (simp only [List.length_cons, List.length_nil]; omega)) only [go_sem, ↓reduceIte, Nat.reduceEqDiff, Nat.reduceAdd, Nat.reduceMul, Nat.reduceSub, Int.reduceToNat, Nat.reduceBEq, List.size_toArray, List.length_cons, List.length_nil, Bool.false_and, Bool.true_and, Bool.or_false, Bool.false_or, Bool.and_false, Bool.and_true, h6', hr]
  have h6' : ¬ (6 : Int) < l.length := by omega
  refine Con_intro Try.func59 rfl ok59 (Nat.le_of_ble_eq_true rfl) rfl ?_
  simp only [Try.f59, Option.getD_some, initSt1]
  simp (disch := first | (simp only [go_sem, Bool.and_self, eq_self]; done) | omega | (simp only [List.length_cons, List.length_nil]; omega)) only [go_sem, ↓reduceIte, Nat.reduceEqDiff, Nat.reduceAdd, Nat.reduceMul, Nat.reduceSub, Int.reduceToNat, Nat.reduceBEq, List.size_toArray, List.length_cons, List.length_nil, Bool.false_and, Bool.true_and, Bool.or_false, Bool.false_or, Bool.and_false, Bool.and_true, h6']
  refine WP_for 13 l.length (fun i st h => st 11 = LLP l ∧ st 12 = I l.length ∧ ∀ j, j < i → offB (nth l j) = true) (by simp (disch := first | (simp only [go_sem, Bool.and_self, eq_self]; done) | omega | (simp only [List.length_cons, List.length_nil]; omega)) only [go_sem, ↓reduceIte, Nat.reduceEqDiff, Nat.reduceAdd, Nat.reduceMul, Nat.reduceSub, Int.reduceToNat, Nat.reduceBEq, List.size_toArray, List.length_cons, List.length_nil, Bool.false_and, Bool.true_and, Bool.or_false, Bool.false_or, Bool.and_false, Bool.and_true]) ⟨by simp (disch := first | (simp only [go_sem, Bool.and_self, eq_self]; done) | omega | (simp only [List.length_cons, List.length_nil]; omega)) only [go_sem, ↓reduceIte, Nat.reduceEqDiff, Nat.reduceAdd, Nat.reduceMul, Nat.reduceSub, Int.reduceToNat, Nat.reduceBEq, List.size_toArray, List.length_cons, List.length_nil, Bool.false_and, Bool.true_and, Bool.or_false, Bool.false_or, Bool.and_false, Bool.and_true], by simp (disch := first | (simp only [go_sem, Bool.and_self, eq_self]; done) | omega | (simp only [List.length_cons, List.length_nil]; omega)) only [go_sem, ↓reduceIte, Nat.reduceEqDiff, Nat.reduceAdd, Nat.reduceMul, Nat.reduceSub, Int.reduceToNat, Nat.reduceBEq, List.size_toArray, List.length_cons, List.length_nil, Bool.false_and, Bool.true_and, Bool.or_false, Bool.false_or, Bool.and_false, Bool.and_true], by omega⟩ ?_
  rintro i st h hi s13 ⟨s11, s12, hall⟩
  by_cases hlt : i < l.length
  case neg =>
    have hr : offsB l = true := by
      rw [offsB, all_nth fun j hj => hall j (by omega)]; simp [h6]
    simp (disch := first | (simp only [go_sem, Bool.and_self, eq_self]; done) | omega | (simp only [List.length_cons, List.length_nil]; omega)) only [go_sem, ↓reduceIte, Nat.reduceEqDiff, Nat.reduceAdd, Nat.reduceMul, Nat.reduceSub, Int.reduceToNat, Nat.reduceBEq, List.size_toArray, List.length_cons, List.length_nil, Bool.false_and, Bool.true_and, Bool.or_false, Bool.false_or, Bool.and_false, Bool.and_true, s11, s12, s13, hlt, hr]
  have hrl := hs.row _ (nth_mem hlt)
  have hno := offB_no hlt
  have hnop := fun j hj => pair_no (o := nth l i) (i := j) hj
  generalize ho : nth l i = o at *
  simp (disch := first | (simp only [go_sem, Bool.and_self, eq_self]; done) | omega | (simp only [List.length_cons, List.length_nil]; omega)) only [go_sem, ↓reduceIte, Nat.reduceEqDiff, Nat.reduceAdd, Nat.reduceMul, Nat.reduceSub, Int.reduceToNat, Nat.reduceBEq, List.size_toArray, List.length_cons, List.length_nil, Bool.false_and, Bool.true_and, Bool.or_false, Bool.false_or, Bool.and_false, Bool.and_true, s11, s12, s13, hlt, ho]
  refine WP_cut (fun st h => st 11 = LLP l ∧ st 12 = I l.length ∧ st 13 = I i ∧ st 4 = LP o ∧ st 5 = I (sumO o fun q => q.2) ∧ o.all pairB = true) ?_ ?_
  · refine WP_for 19 o.length (fun j st h => st 11 = LLP l ∧ st 12 = I l.length ∧ st 13 = I i ∧ st 4 = LP o ∧ st 17 = LP o ∧ st 18 = I o.length ∧ st 5 = I (sumN (fun i => (nth o i).2) j) ∧ ∀ m, m < j → pairB (nth o m) = true) (by simp (disch := first | (simp only [go_sem, Bool.and_self, eq_self]; done) | omega | (simp only [List.length_cons, List.length_nil]; omega)) only [go_sem, ↓reduceIte, Nat.reduceEqDiff, Nat.reduceAdd, Nat.reduceMul, Nat.reduceSub, Int.reduceToNat, Nat.reduceBEq, List.size_toArray, List.length_cons, List.length_nil, Bool.false_and, Bool.true_and, Bool.or_false, Bool.false_or, Bool.and_false, Bool.and_true]) ⟨by simp (disch := first | (simp only [go_sem, Bool.and_self, eq_self]; done) | omega | (simp only [List.length_cons, List.length_nil]; omega)) only [go_sem, ↓reduceIte, Nat.reduceEqDiff, Nat.reduceAdd, Nat.reduceMul, Nat.reduceSub, Int.reduceToNat, Nat.reduceBEq, List.size_toArray, List.length_cons, List.length_nil, Bool.false_and, Bool.true_and, Bool.or_false, Bool.false_or, Bool.and_false, Bool.and_true, s11], by simp (disch := first | (simp only [go_sem, Bool.and_self, eq_self]; done) | omega | (simp only [List.length_cons, List.length_nil]; omega)) only [go_sem, ↓reduceIte, Nat.reduceEqDiff, Nat.reduceAdd, Nat.reduceMul, Nat.reduceSub, Int.reduceToNat, Nat.reduceBEq, List.size_toArray, List.length_cons, List.length_nil, Bool.false_and, Bool.true_and, Bool.or_false, Bool.false_or, Bool.and_false, Bool.and_true, s12], by simp (disch := first | (simp only [go_sem, Bool.and_self, eq_self]; done) | omega | (simp only [List.length_cons, List.length_nil]; omega)) only [go_sem, ↓reduceIte, Nat.reduceEqDiff, Nat.reduceAdd, Nat.reduceMul, Nat.reduceSub, Int.reduceToNat, Nat.reduceBEq, List.size_toArray, List.length_cons, List.length_nil, Bool.false_and, Bool.true_and, Bool.or_false, Bool.false_or, Bool.and_false, Bool.and_true, s13], by simp (disch := first | (simp only [go_sem, Bool.and_self, eq_self]; done) | omega | (simp only [List.length_cons, List.length_nil]; omega)) only [go_sem, ↓reduceIte, Nat.reduceEqDiff, Nat.reduceAdd, Nat.reduceMul, Nat.reduceSub, Int.reduceToNat, Nat.reduceBEq, List.size_toArray, List.length_cons, List.length_nil, Bool.false_and, Bool.true_and, Bool.or_false, Bool.false_or, Bool.and_false, Bool.and_true], by simp (disch := first | (simp only [go_sem, Bool.and_self, eq_self]; done) | omega | (simp only [List.length_cons, List.length_nil]; omega)) only [go_sem, ↓reduceIte, Nat.reduceEqDiff, Nat.reduceAdd, Nat.reduceMul, Nat.reduceSub, Int.reduceToNat, Nat.reduceBEq, List.size_toArray, List.length_cons, List.length_nil, Bool.false_and, Bool.true_and, Bool.or_false, Bool.false_or, Bool.and_false, Bool.and_true], by simp (disch := first | (simp only [go_sem, Bool.and_self, eq_self]; done) | omega | (simp only [List.length_cons, List.length_nil]; omega)) only [go_sem, ↓reduceIte, Nat.reduceEqDiff, Nat.reduceAdd, Nat.reduceMul, Nat.reduceSub, Int.reduceToNat, Nat.reduceBEq, List.size_toArray, List.length_cons, List.length_nil, Bool.false_and, Bool.true_and, Bool.or_false, Bool.false_or, Bool.and_false, Bool.and_true], by simp (disch := first | (simp only [go_sem, Bool.and_self, eq_self]; done) | omega | (simp only [List.length_cons, List.length_nil]; omega)) only [go_sem, ↓reduceIte, Nat.reduceEqDiff, Nat.reduceAdd, Nat.reduceMul, Nat.reduceSub, Int.reduceToNat, Nat.reduceBEq, List.size_toArray, List.length_cons, List.length_nil, Bool.false_and, Bool.true_and, Bool.or_false, Bool.false_or, Bool.and_false, Bool.and_true]; rfl, by omega⟩ ?_
    rintro j st h hj s19 ⟨s11, s12, s13, s4, s17, s18, s5, hpj⟩
    by_cases hjl : j < o.length
    case neg =>
      have hje : j = o.length := by omega
      subst hje
      simp (disch := first | (simp only [go_sem, Bool.and_self, eq_self]; done) | omega | (simp only [List.length_cons, List.length_nil]; omega)) only [go_sem, ↓reduceIte, Nat.reduceEqDiff, Nat.reduceAdd, Nat.reduceMul, Nat.reduceSub, Int.reduceToNat, Nat.reduceBEq, List.size_toArray, List.length_cons, List.length_nil, Bool.false_and, Bool.true_and, Bool.or_false, Bool.false_or, Bool.and_false, Bool.and_true, s11, s12, s13, s4, s17, s18, s19, s5, hjl]
      exact ⟨rfl, all_nth hpj⟩
    have hb := pair_b (Nat.le_of_lt hjl) hpj
    have hst : sumN (fun i => (nth o i).2) (j + 1) = sumN (fun i => (nth o i).2) j + (nth o j).2 := rfl
    have hnp := hnop j hjl
    have hpd : pairB (nth o j) = (inB (nth o j).1 0 1000 && inB (nth o j).2 1 16) := rfl
    generalize hq : nth o j = q at *
    generalize sumN (fun i => (nth o i).2) j = s at *
    cases c1 : inB q.1 0 1000 with
    | false =>
      have hr := hno (hnp (by rw [hpd, c1]; rfl))
      simp (disch := first | (simp only [go_sem, Bool.and_self, eq_self]; done) | omega | (simp only [List.length_cons, List.length_nil]; omega)) only [go_sem, ↓reduceIte, Nat.reduceEqDiff, Nat.reduceAdd, Nat.reduceMul, Nat.reduceSub, Int.reduceToNat, Nat.reduceBEq, List.size_toArray, List.length_cons, List.length_nil, Bool.false_and, Bool.true_and, Bool.or_false, Bool.false_or, Bool.and_false, Bool.and_true, s11, s12, s13, s4, s17, s18, s19, s5, hjl, hq, hal, c1, hr]
    | true =>
    cases c2 : inB q.2 1 16 with
    | false =>
      have hr := hno (hnp (by rw [hpd, c1, c2]; rfl))
      simp (disch := first | (simp only [go_sem, Bool.and_self, eq_self]; done) | omega | (simp only [List.length_cons, List.length_nil]; omega)) only [go_sem, ↓reduceIte, Nat.reduceEqDiff, Nat.reduceAdd, Nat.reduceMul, Nat.reduceSub, Int.reduceToNat, Nat.reduceBEq, List.size_toArray, List.length_cons, List.length_nil, Bool.false_and, Bool.true_and, Bool.or_false, Bool.false_or, Bool.and_false, Bool.and_true, s11, s12, s13, s4, s17, s18, s19, s5, hjl, hq, hal, c1, c2, hr]
    | true =>
      have c2' := c2
      simp only [inB, Bool.and_eq_true, decide_eq_true_eq] at c2'
      simp (disch := first | (simp only [go_sem, Bool.and_self, eq_self]; done) | omega | (simp only [List.length_cons, List.length_nil]; omega)) only [go_sem, ↓reduceIte, Nat.reduceEqDiff, Nat.reduceAdd, Nat.reduceMul, Nat.reduceSub, Int.reduceToNat, Nat.reduceBEq, List.size_toArray, List.length_cons, List.length_nil, Bool.false_and, Bool.true_and, Bool.or_false, Bool.false_or, Bool.and_false, Bool.and_true, s11, s12, s13, s4, s17, s18, s19, s5, hjl, hq, hal, c1, c2]
      rw [ForK_normal]
      refine ⟨hjl, by simp (disch := first | (simp only [go_sem, Bool.and_self, eq_self]; done) | omega | (simp only [List.length_cons, List.length_nil]; omega)) only [go_sem, ↓reduceIte, Nat.reduceEqDiff, Nat.reduceAdd, Nat.reduceMul, Nat.reduceSub, Int.reduceToNat, Nat.reduceBEq, List.size_toArray, List.length_cons, List.length_nil, Bool.false_and, Bool.true_and, Bool.or_false, Bool.false_or, Bool.and_false, Bool.and_true, s19], by simp (disch := first | (simp only [go_sem, Bool.and_self, eq_self]; done) | omega | (simp only [List.length_cons, List.length_nil]; omega)) only [go_sem, ↓reduceIte, Nat.reduceEqDiff, Nat.reduceAdd, Nat.reduceMul, Nat.reduceSub, Int.reduceToNat, Nat.reduceBEq, List.size_toArray, List.length_cons, List.length_nil, Bool.false_and, Bool.true_and, Bool.or_false, Bool.false_or, Bool.and_false, Bool.and_true, s11], by simp (disch := first | (simp only [go_sem, Bool.and_self, eq_self]; done) | omega | (simp only [List.length_cons, List.length_nil]; omega)) only [go_sem, ↓reduceIte, Nat.reduceEqDiff, Nat.reduceAdd, Nat.reduceMul, Nat.reduceSub, Int.reduceToNat, Nat.reduceBEq, List.size_toArray, List.length_cons, List.length_nil, Bool.false_and, Bool.true_and, Bool.or_false, Bool.false_or, Bool.and_false, Bool.and_true, s12], by simp (disch := first | (simp only [go_sem, Bool.and_self, eq_self]; done) | omega | (simp only [List.length_cons, List.length_nil]; omega)) only [go_sem, ↓reduceIte, Nat.reduceEqDiff, Nat.reduceAdd, Nat.reduceMul, Nat.reduceSub, Int.reduceToNat, Nat.reduceBEq, List.size_toArray, List.length_cons, List.length_nil, Bool.false_and, Bool.true_and, Bool.or_false, Bool.false_or, Bool.and_false, Bool.and_true, s13], by simp (disch := first | (simp only [go_sem, Bool.and_self, eq_self]; done) | omega | (simp only [List.length_cons, List.length_nil]; omega)) only [go_sem, ↓reduceIte, Nat.reduceEqDiff, Nat.reduceAdd, Nat.reduceMul, Nat.reduceSub, Int.reduceToNat, Nat.reduceBEq, List.size_toArray, List.length_cons, List.length_nil, Bool.false_and, Bool.true_and, Bool.or_false, Bool.false_or, Bool.and_false, Bool.and_true, s4], by simp (disch := first | (simp only [go_sem, Bool.and_self, eq_self]; done) | omega | (simp only [List.length_cons, List.length_nil]; omega)) only [go_sem, ↓reduceIte, Nat.reduceEqDiff, Nat.reduceAdd, Nat.reduceMul, Nat.reduceSub, Int.reduceToNat, Nat.reduceBEq, List.size_toArray, List.length_cons, List.length_nil, Bool.false_and, Bool.true_and, Bool.or_false, Bool.false_or, Bool.and_false, Bool.and_true, s17], by simp (disch := first | (simp only [go_sem, Bool.and_self, eq_self]; done) | omega | (simp only [List.length_cons, List.length_nil]; omega)) only [go_sem, ↓reduceIte, Nat.reduceEqDiff, Nat.reduceAdd, Nat.reduceMul, Nat.reduceSub, Int.reduceToNat, Nat.reduceBEq, List.size_toArray, List.length_cons, List.length_nil, Bool.false_and, Bool.true_and, Bool.or_false, Bool.false_or, Bool.and_false, Bool.and_true, s18], by rw [hst]; simp (disch := first | (simp only [go_sem, Bool.and_self, eq_self]; done) | omega | (simp only [List.length_cons, List.length_nil]; omega)) only [go_sem, ↓reduceIte, Nat.reduceEqDiff, Nat.reduceAdd, Nat.reduceMul, Nat.reduceSub, Int.reduceToNat, Nat.reduceBEq, List.size_toArray, List.length_cons, List.length_nil, Bool.false_and, Bool.true_and, Bool.or_false, Bool.false_or, Bool.and_false, Bool.and_true], fun m hm => ?_⟩
      rcases Nat.lt_or_ge m j with h1 | h1
      · exact hpj m h1
      · rw [show m = j by omega, hq, hpd, c1, c2]; rfl
  · rintro st h ⟨s11, s12, s13, s4, s5, hap⟩
    have hob : offB o = (decide (o.length ≤ 8) && decide (sumO o (fun q => q.2) = 16)) := by rw [offB, hap, Bool.true_and]
    by_cases h8 : (8 : Int) < o.length
    · have hr := hno (by rw [hob, decide_eq_false (by omega)]; rfl)
      simp (disch := first | (simp only [go_sem, Bool.and_self, eq_self]; done) | omega | (simp only [List.length_cons, List.length_nil]; omega)) only [go_sem, ↓reduceIte, Nat.reduceEqDiff, Nat.reduceAdd, Nat.reduceMul, Nat.reduceSub, Int.reduceToNat, Nat.reduceBEq, List.size_toArray, List.length_cons, List.length_nil, Bool.false_and, Bool.true_and, Bool.or_false, Bool.false_or, Bool.and_false, Bool.and_true, s11, s12, s13, s4, s5, h8, hr]
    by_cases h16 : sumO o (fun q => q.2) = 16
    · simp (disch := first | (simp only [go_sem, Bool.and_self, eq_self]; done) | omega | (simp only [List.length_cons, List.length_nil]; omega)) only [go_sem, ↓reduceIte, Nat.reduceEqDiff, Nat.reduceAdd, Nat.reduceMul, Nat.reduceSub, Int.reduceToNat, Nat.reduceBEq, List.size_toArray, List.length_cons, List.length_nil, Bool.false_and, Bool.true_and, Bool.or_false, Bool.false_or, Bool.and_false, Bool.and_true, s11, s12, s13, s4, s5, h8, h16, eq_self, decide_true, Bool.not_true]
      rw [ForK_normal]
      refine ⟨hlt, by simp (disch := first | (simp only [go_sem, Bool.and_self, eq_self]; done) | omega | (simp only [List.length_cons, List.length_nil]; omega)) only [go_sem, ↓reduceIte, Nat.reduceEqDiff, Nat.reduceAdd, Nat.reduceMul, Nat.reduceSub, Int.reduceToNat, Nat.reduceBEq, List.size_toArray, List.length_cons, List.length_nil, Bool.false_and, Bool.true_and, Bool.or_false, Bool.false_or, Bool.and_false, Bool.and_true, s13], by simp (disch := first | (simp only [go_sem, Bool.and_self, eq_self]; done) | omega | (simp only [List.length_cons, List.length_nil]; omega)) only [go_sem, ↓reduceIte, Nat.reduceEqDiff, Nat.reduceAdd, Nat.reduceMul, Nat.reduceSub, Int.reduceToNat, Nat.reduceBEq, List.size_toArray, List.length_cons, List.length_nil, Bool.false_and, Bool.true_and, Bool.or_false, Bool.false_or, Bool.and_false, Bool.and_true, s11], by simp (disch := first | (simp only [go_sem, Bool.and_self, eq_self]; done) | omega | (simp only [List.length_cons, List.length_nil]; omega)) only [go_sem, ↓reduceIte, Nat.reduceEqDiff, Nat.reduceAdd, Nat.reduceMul, Nat.reduceSub, Int.reduceToNat, Nat.reduceBEq, List.size_toArray, List.length_cons, List.length_nil, Bool.false_and, Bool.true_and, Bool.or_false, Bool.false_or, Bool.and_false, Bool.and_true, s12], fun j hj => ?_⟩
      rcases Nat.lt_or_ge j i with h1 | h1
      · exact hall j h1
      · rw [show j = i by omega, ho, hob, h16, decide_eq_true (by omega)]; rfl
    · have hr := hno (by rw [hob, decide_eq_false h16, Bool.and_false])
      simp (disch := first | (simp only [go_sem, Bool.and_self, eq_self]; done) | omega | (simp only [List.length_cons, List.length_nil]; omega)) only [go_sem, ↓reduceIte, Nat.reduceEqDiff, Nat.reduceAdd, Nat.reduceMul, Nat.reduceSub, Int.reduceToNat, Nat.reduceBEq, List.size_toArray, List.length_cons, List.length_nil, Bool.false_and, Bool.true_and, Bool.or_false, Bool.false_or, Bool.and_false, Bool.and_true, s11, s12, s13, s4, s5, h8, h16, hr]
theorem k59 (l : List (List (Int × Int))) (hs : smallO l) : ConW Try.prog cfg 59 h (some ([LLP l], h')) K = K (.bool (offsB l)) h := ConW_num (f59_con l hs) rfl
end Go.Proofs.Ytgamcclfdkpcgaa

set_option linter.unusedVariables false
set_option linter.unusedSimpArgs false
set_option maxRecDepth 10000
namespace Go.Proofs.Ytgamcclfdkpcgaa
open Go Go.Am

variable {h h' : Hp} {K : AV → Hp → Prop}

theorem f41_con (l : List (List (Int × Int))) (hs : smallO l) : Con Try.prog cfg 41 [LLP l] (.bool (offsB l)) := by
  have hl8 := hs.len
  refine Con_intro Try.func41 rfl ok41 (Nat.le_of_ble_eq_true rfl) rfl ?_
  simp only [Try.f41, Option.getD_some, initSt1]
  simp (disch := first | (simp only [go_sem, Bool.and_self, eq_self]; done) | omega | (simp only [List.length_cons, List.length_nil]; omega)) only [go_sem, ↓reduceIte, Nat.reduceEqDiff, Nat.reduceAdd, Nat.reduceMul, Nat.reduceSub, Int.reduceToNat, Nat.reduceBEq, List.size_toArray, List.length_cons, List.length_nil, Bool.false_and, Bool.true_and, Bool.or_false, Bool.false_or, Bool.and_false, Bool.and_true]
  refine WP_for 3 l.length (fun i st h => st 0 = LLP l ∧ ∀ j, j < i → offB (nth l j) = true) (by simp (disch := first | (simp only [go_sem, Bool.and_self, eq_self]; done) | omega | (simp only [List.length_cons, List.length_nil]; omega)) only [go_sem, ↓reduceIte, Nat.reduceEqDiff, Nat.reduceAdd, Nat.reduceMul, Nat.reduceSub, Int.reduceToNat, Nat.reduceBEq, List.size_toArray, List.length_cons, List.length_nil, Bool.false_and, Bool.true_and, Bool.or_false, Bool.false_or, Bool.and_false, Bool.and_true]) ⟨by simp (disch := first | (simp only [go_sem, Bool.and_self, eq_self]; done) | omega | (simp only [List.length_cons, List.length_nil]; omega)) only [go_sem, ↓reduceIte, Nat.reduceEqDiff, Nat.reduceAdd, Nat.reduceMul, Nat.reduceSub, Int.reduceToNat, Nat.reduceBEq, List.size_toArray, List.length_cons, List.length_nil, Bool.false_and, Bool.true_and, Bool.or_false, Bool.false_or, Bool.and_false, Bool.and_true], by omega⟩ ?_
  rintro i st h hi s3 ⟨s0, hall⟩
  by_cases hlt : i < l.length
  case neg =>
    have hr : offsB l = decide (l.length ≤ 6) := by
      rw [offsB, all_nth fun j hj => hall j (by omega), Bool.and_true]
    by_cases h6 : l.length ≤ 6
    · have h6' : (l.length : Int) ≤ 6 := by omega
      rw [decide_eq_true h6] at hr
      simp (disch := first | (simp only [go_sem, Bool.and_self, eq_self]; done) | omega | (simp only [List.length_cons, List.length_nil]; omega)) only [go_sem, ↓reduceIte, Nat.reduceEqDiff, Nat.reduceAdd, Nat.reduceMul, Nat.reduceSub, Int.reduceToNat, Nat.reduceBEq, List.size_toArray, List.length_cons, List.length_nil, Bool.false_and, Bool.true_and, Bool.or_false, Bool.false_or, Bool.and_false, Bool.and_true, s0, s3, hlt, hr, h6']
    · have h6' : ¬ (l.length : Int) ≤ 6 := by omega
      rw [decide_eq_false h6] at hr
      simp (disch := first | (simp only [go_sem, Bool.and_self, eq_self]; done) | omega | (simp only [List.length_cons, List.length_nil]; omega)) only [go_sem, ↓reduceIte, Nat.reduceEqDiff, Nat.reduceAdd, Nat.reduceMul, Nat.reduceSub, Int.reduceToNat, Nat.reduceBEq, List.size_toArray, List.length_cons, List.length_nil, Bool.false_and, Bool.true_and, Bool.or_false, Bool.false_or, Bool.and_false, Bool.and_true, s0, s3, hlt, hr, h6']
  have hrl := hs.row _ (nth_mem hlt)
  have hno := offB_no hlt
  have hnop := fun j hj => pair_no (o := nth l i) (i := j) hj
  generalize ho : nth l i = o at *
  simp (disch := first | (simp only [go_sem, Bool.and_self, eq_self]; done) | omega | (simp only [List.length_cons, List.length_nil]; omega)) only [go_sem, ↓reduceIte, Nat.reduceEqDiff, Nat.reduceAdd, Nat.reduceMul, Nat.reduceSub, Int.reduceToNat, Nat.reduceBEq, List.size_toArray, List.length_cons, List.length_nil, Bool.false_and, Bool.true_and, Bool.or_false, Bool.false_or, Bool.and_false, Bool.and_true, s0, s3, hlt]
  refine WP_cut (fun st h => st 0 = LLP l ∧ st 3 = I i ∧ st 4 = I (sumO o fun q => q.2) ∧ o.all pairB = true) ?_ ?_
  · refine WP_for 5 o.length (fun j st h => st 0 = LLP l ∧ st 3 = I i ∧ st 4 = I (sumN (fun i => (nth o i).2) j) ∧ ∀ m, m < j → pairB (nth o m) = true) (by simp (disch := first | (simp only [go_sem, Bool.and_self, eq_self]; done) | omega | (simp only [List.length_cons, List.length_nil]; omega)) only [go_sem, ↓reduceIte, Nat.reduceEqDiff, Nat.reduceAdd, Nat.reduceMul, Nat.reduceSub, Int.reduceToNat, Nat.reduceBEq, List.size_toArray, List.length_cons, List.length_nil, Bool.false_and, Bool.true_and, Bool.or_false, Bool.false_or, Bool.and_false, Bool.and_true]) ⟨by simp (disch := first | (simp only [go_sem, Bool.and_self, eq_self]; done) | omega | (simp only [List.length_cons, List.length_nil]; omega)) only [go_sem, ↓reduceIte, Nat.reduceEqDiff, Nat.reduceAdd, Nat.reduceMul, Nat.reduceSub, Int.reduceToNat, Nat.reduceBEq, List.size_toArray, List.length_cons, List.length_nil, Bool.false_and, Bool.true_and, Bool.or_false, Bool.false_or, Bool.and_false, Bool.and_true, s0], by simp (disch := first | (simp only [go_sem, Bool.and_self, eq_self]; done) | omega | (simp only [List.length_cons, List.length_nil]; omega)) only [go_sem, ↓reduceIte, Nat.reduceEqDiff, Nat.reduceAdd, Nat.reduceMul, Nat.reduceSub, Int.reduceToNat, Nat.reduceBEq, List.size_toArray, List.length_cons, List.length_nil, Bool.false_and, Bool.true_and, Bool.or_false, Bool.false_or, Bool.and_false, Bool.and_true, s3], by simp (disch := first | (simp only [go_sem, Bool.and_self, eq_self]; done) | omega | (simp only [List.length_cons, List.length_nil]; omega)) only [go_sem, ↓reduceIte, Nat.reduceEqDiff, Nat.reduceAdd, Nat.reduceMul, Nat.reduceSub, Int.reduceToNat, Nat.reduceBEq, List.size_toArray, List.length_cons, List.length_nil, Bool.false_and, Bool.true_and, Bool.or_false, Bool.false_or, Bool.and_false, Bool.and_true]; rfl, by omega⟩ ?_
    rintro j st h hj s5 ⟨s0, s3, s4, hpj⟩
    by_cases hjl : j < o.length
    case neg =>
      have hje : j = o.length := by omega
      subst hje
      simp (disch := first | (simp only [go_sem, Bool.and_self, eq_self]; done) | omega | (simp only [List.length_cons, List.length_nil]; omega)) only [go_sem, ↓reduceIte, Nat.reduceEqDiff, Nat.reduceAdd, Nat.reduceMul, Nat.reduceSub, Int.reduceToNat, Nat.reduceBEq, List.size_toArray, List.length_cons, List.length_nil, Bool.false_and, Bool.true_and, Bool.or_false, Bool.false_or, Bool.and_false, Bool.and_true, s0, s3, s4, s5, hjl, hlt, ho]
      exact ⟨rfl, all_nth hpj⟩
    have hb := pair_b (Nat.le_of_lt hjl) hpj
    have hst : sumN (fun i => (nth o i).2) (j + 1) = sumN (fun i => (nth o i).2) j + (nth o j).2 := rfl
    have hnp := hnop j hjl
    have hpd : pairB (nth o j) = ((decide (0 ≤ (nth o j).1) && decide ((nth o j).1 ≤ 1000)) && (decide (1 ≤ (nth o j).2) && decide ((nth o j).2 ≤ 16))) := rfl
    generalize hq : nth o j = q at *
    generalize sumN (fun i => (nth o i).2) j = s at *
    by_cases c1 : q.1 < 0
    · have hr := hno (hnp (by rw [hpd, decide_eq_false (by omega)]; rfl))
      simp (disch := first | (simp only [go_sem, Bool.and_self, eq_self]; done) | omega | (simp only [List.length_cons, List.length_nil]; omega)) only [go_sem, ↓reduceIte, Nat.reduceEqDiff, Nat.reduceAdd, Nat.reduceMul, Nat.reduceSub, Int.reduceToNat, Nat.reduceBEq, List.size_toArray, List.length_cons, List.length_nil, Bool.false_and, Bool.true_and, Bool.or_false, Bool.false_or, Bool.and_false, Bool.and_true, s0, s3, s4, s5, hjl, hlt, ho, hq, c1, hr]
    by_cases c2 : 1000 < q.1
    · have hr := hno (hnp (by rw [hpd, decide_eq_false (show ¬ q.1 ≤ 1000 by omega), Bool.and_false]; rfl))
      simp (disch := first | (simp only [go_sem, Bool.and_self, eq_self]; done) | omega | (simp only [List.length_cons, List.length_nil]; omega)) only [go_sem, ↓reduceIte, Nat.reduceEqDiff, Nat.reduceAdd, Nat.reduceMul, Nat.reduceSub, Int.reduceToNat, Nat.reduceBEq, List.size_toArray, List.length_cons, List.length_nil, Bool.false_and, Bool.true_and, Bool.or_false, Bool.false_or, Bool.and_false, Bool.and_true, s0, s3, s4, s5, hjl, hlt, ho, hq, c1, c2, hr]
    by_cases c3 : q.2 < 1
    · have hr := hno (hnp (by rw [hpd, decide_eq_false (show ¬ 1 ≤ q.2 by omega), Bool.false_and, Bool.and_false]))
      simp (disch := first | (simp only [go_sem, Bool.and_self, eq_self]; done) | omega | (simp only [List.length_cons, List.length_nil]; omega)) only [go_sem, ↓reduceIte, Nat.reduceEqDiff, Nat.reduceAdd, Nat.reduceMul, Nat.reduceSub, Int.reduceToNat, Nat.reduceBEq, List.size_toArray, List.length_cons, List.length_nil, Bool.false_and, Bool.true_and, Bool.or_false, Bool.false_or, Bool.and_false, Bool.and_true, s0, s3, s4, s5, hjl, hlt, ho, hq, List.drop_succ_cons, c1, c2, c3, hr]
    by_cases c4 : 16 < q.2
    · have hr := hno (hnp (by rw [hpd, decide_eq_false (show ¬ q.2 ≤ 16 by omega), Bool.and_false, Bool.and_false]))
      simp (disch := first | (simp only [go_sem, Bool.and_self, eq_self]; done) | omega | (simp only [List.length_cons, List.length_nil]; omega)) only [go_sem, ↓reduceIte, Nat.reduceEqDiff, Nat.reduceAdd, Nat.reduceMul, Nat.reduceSub, Int.reduceToNat, Nat.reduceBEq, List.size_toArray, List.length_cons, List.length_nil, Bool.false_and, Bool.true_and, Bool.or_false, Bool.false_or, Bool.and_false, Bool.and_true, s0, s3, s4, s5, hjl, hlt, ho, hq, List.drop_succ_cons, c1, c2, c3, c4, hr]
    simp (disch := first | (simp only [go_sem, Bool.and_self, eq_self]; done) | omega | (simp only [List.length_cons, List.length_nil]; omega)) only [go_sem, ↓reduceIte, Nat.reduceEqDiff, Nat.reduceAdd, Nat.reduceMul, Nat.reduceSub, Int.reduceToNat, Nat.reduceBEq, List.size_toArray, List.length_cons, List.length_nil, Bool.false_and, Bool.true_and, Bool.or_false, Bool.false_or, Bool.and_false, Bool.and_true, s0, s3, s4, s5, hjl, hlt, ho, hq, List.drop_succ_cons, c1, c2, c3, c4]
    rw [ForK_normal]
    refine ⟨hjl, by simp (disch := first | (simp only [go_sem, Bool.and_self, eq_self]; done) | omega | (simp only [List.length_cons, List.length_nil]; omega)) only [go_sem, ↓reduceIte, Nat.reduceEqDiff, Nat.reduceAdd, Nat.reduceMul, Nat.reduceSub, Int.reduceToNat, Nat.reduceBEq, List.size_toArray, List.length_cons, List.length_nil, Bool.false_and, Bool.true_and, Bool.or_false, Bool.false_or, Bool.and_false, Bool.and_true, s5], by simp (disch := first | (simp only [go_sem, Bool.and_self, eq_self]; done) | omega | (simp only [List.length_cons, List.length_nil]; omega)) only [go_sem, ↓reduceIte, Nat.reduceEqDiff, Nat.reduceAdd, Nat.reduceMul, Nat.reduceSub, Int.reduceToNat, Nat.reduceBEq, List.size_toArray, List.length_cons, List.length_nil, Bool.false_and, Bool.true_and, Bool.or_false, Bool.false_or, Bool.and_false, Bool.and_true, s0], by simp (disch := first | (simp only [go_sem, Bool.and_self, eq_self]; done) | omega | (simp only [List.length_cons, List.length_nil]; omega)) only [go_sem, ↓reduceIte, Nat.reduceEqDiff, Nat.reduceAdd, Nat.reduceMul, Nat.reduceSub, Int.reduceToNat, Nat.reduceBEq, List.size_toArray, List.length_cons, List.length_nil, Bool.false_and, Bool.true_and, Bool.or_false, Bool.false_or, Bool.and_false, Bool.and_true, s3], by rw [hst]; simp (disch := first | (simp only [go_sem, Bool.and_self, eq_self]; done) | omega | (simp only [List.length_cons, List.length_nil]; omega)) only [go_sem, ↓reduceIte, Nat.reduceEqDiff, Nat.reduceAdd, Nat.reduceMul, Nat.reduceSub, Int.reduceToNat, Nat.reduceBEq, List.size_toArray, List.length_cons, List.length_nil, Bool.false_and, Bool.true_and, Bool.or_false, Bool.false_or, Bool.and_false, Bool.and_true], fun m hm => ?_⟩
    rcases Nat.lt_or_ge m j with h1 | h1
    · exact hpj m h1
    · rw [show m = j by omega, hq, hpd, decide_eq_true (show 0 ≤ q.1 by omega), decide_eq_true (show q.1 ≤ 1000 by omega), decide_eq_true (show 1 ≤ q.2 by omega), decide_eq_true (show q.2 ≤ 16 by omega)]; rfl
  · rintro st h ⟨s0, s3, s4, hap⟩
    have hob : offB o = (decide (o.length ≤ 8) && decide (sumO o (fun q => q.2) = 16)) := by rw [offB, hap, Bool.true_and]
    by_cases h8 : (8 : Int) < o.length
    · have hr := hno (by rw [hob, decide_eq_false (by omega)]; rfl)
      simp (disch := first | (simp only [go_sem, Bool.and_self, eq_self]; done) | omega | (simp only [List.length_cons, List.length_nil]; omega)) only [go_sem, ↓reduceIte, Nat.reduceEqDiff, Nat.reduceAdd, Nat.reduceMul, Nat.reduceSub, Int.reduceToNat, Nat.reduceBEq, List.size_toArray, List.length_cons, List.length_nil, Bool.false_and, Bool.true_and, Bool.or_false, Bool.false_or, Bool.and_false, Bool.and_true, s0, s3, s4, hlt, ho, h8, hr]
    by_cases h16 : sumO o (fun q => q.2) = 16
    · simp (disch := first | (simp only [go_sem, Bool.and_self, eq_self]; done) | omega | (simp only [List.length_cons, List.length_nil]; omega)) only [go_sem, ↓reduceIte, Nat.reduceEqDiff, Nat.reduceAdd, Nat.reduceMul, Nat.reduceSub, Int.reduceToNat, Nat.reduceBEq, List.size_toArray, List.length_cons, List.length_nil, Bool.false_and, Bool.true_and, Bool.or_false, Bool.false_or, Bool.and_false, Bool.and_true, s0, s3, s4, hlt, ho, h8, h16, eq_self, decide_true, Bool.not_true]
      rw [ForK_normal]
      refine ⟨hlt, by simp (disch := first | (simp only [go_sem, Bool.and_self, eq_self]; done) | omega | (simp only [List.length_cons, List.length_nil]; omega)) only [go_sem, ↓reduceIte, Nat.reduceEqDiff, Nat.reduceAdd, Nat.reduceMul, Nat.reduceSub, Int.reduceToNat, Nat.reduceBEq, List.size_toArray, List.length_cons, List.length_nil, Bool.false_and, Bool.true_and, Bool.or_false, Bool.false_or, Bool.and_false, Bool.and_true, s3], by simp (disch := first | (simp only [go_sem, Bool.and_self, eq_self]; done) | omega | (simp only [List.length_cons, List.length_nil]; omega)) only [go_sem, ↓reduceIte, Nat.reduceEqDiff, Nat.reduceAdd, Nat.reduceMul, Nat.reduceSub, Int.reduceToNat, Nat.reduceBEq, List.size_toArray, List.length_cons, List.length_nil, Bool.false_and, Bool.true_and, Bool.or_false, Bool.false_or, Bool.and_false, Bool.and_true, s0], fun j hj => ?_⟩
      rcases Nat.lt_or_ge j i with h1 | h1
      · exact hall j h1
      · rw [show j = i by omega, ho, hob, h16, decide_eq_true (by omega)]; rfl
    · have hr := hno (by rw [hob, decide_eq_false h16, Bool.and_false])
      simp (disch := first | (simp only [go_sem, Bool.and_self, eq_self]; done) | omega | (simp only [List.length_cons, List.length_nil]; omega)) only [go_sem, ↓reduceIte, Nat.reduceEqDiff, Nat.reduceAdd, Nat.reduceMul, Nat.reduceSub, Int.reduceToNat, Nat.reduceBEq, List.size_toArray, List.length_cons, List.length_nil, Bool.false_and, Bool.true_and, Bool.or_false, Bool.false_or, Bool.and_false, Bool.and_true, s0, s3, s4, hlt, ho, h8, h16, hr]

theorem f73_con (n : Int) : Con Try.prog cfg 73 [I n] (FR (n, 1)) := by
  refine Con_intro Try.func73 rfl ok73 (Nat.le_of_ble_eq_true rfl) rfl ?_
  simp only [Try.f73, Option.getD_some, initSt1]
  simp (disch := first | (simp only [go_sem, Bool.and_self, eq_self]; done) | omega | (simp only [List.length_cons, List.length_nil]; omega)) only [go_sem, ↓reduceIte, Nat.reduceEqDiff, Nat.reduceAdd, Nat.reduceMul, Nat.reduceSub, Int.reduceToNat, Nat.reduceBEq, List.size_toArray, List.length_cons, List.length_nil, Bool.false_and, Bool.true_and, Bool.or_false, Bool.false_or, Bool.and_false, Bool.and_true]
  rfl
theorem k73 (n : Int) : ConW Try.prog cfg 73 h (some ([I n], h')) K = K (FR (n, 1)) h := ConW_num (f73_con n) rfl

/-! ### The mean of a function -/
theorem f74_con {o : List (Int × Int)} (ho : OffOK o) (g : FuncId) (caps : List AV) (hsh : cfg.shared g = false) (hse : ∀ h, sealArgs h caps = some (caps, h)) (F : Int → Int) (k : Nat) (hk : k ≤ 5)
    (hF : ∀ q ∈ o, 0 ≤ F q.1 ∧ F q.1 ≤ 1000 * pw k) (hc : ∀ q ∈ o, Con Try.prog cfg g (I q.1 :: caps) (FR (rdP (F q.1) (pw k)))) :
    Con Try.prog cfg 74 [LP o, .fn g caps] (FR (rdP (sumO o fun q => q.2 * F q.1) (pw (k + 1)))) := by
  have hal : ∀ (g : Hp) (x y : Int), allocB g (some (.agg [I x, I y])) = some (.ptr g.nx 0, g.alloc (.cells false false [I x, I y])) := fun g x y => allocB_agg _ rfl
  have hD0 := pw_pos k
  have hD1 : pw k ≤ 1048576 := by
    have h1 : (16 : Nat) ^ k ≤ 16 ^ 5 := Nat.pow_le_pow_right (by decide) hk
    have h2 : ((16 ^ k : Nat) : Int) = pw k := by simp [pw]
    have : (16 : Nat) ^ 5 = 1048576 := by decide
    omega
  have hD2 := pw_succ k
  have hol := ho.len
  generalize pw (k + 1) = D' at *
  generalize pw k = D at *
  have bd : ∀ j, j ≤ o.length → 0 ≤ sumN (fun i => (nth o i).2 * F (nth o i).1) j ∧ sumN (fun i => (nth o i).2 * F (nth o i).1) j ≤ 16000 * D * j := by
    intro j hj
    have := sumN_bounds (f := fun i => (nth o i).2 * F (nth o i).1) (lo := 0) (hi := 16000 * D) (n := j) fun i hi => by
      have hm : nth o i ∈ o := nth_mem (by omega)
      have h1 := hF _ hm
      have h2 := ho.x _ hm
      refine ⟨Int.mul_nonneg (by omega) h1.1, ?_⟩
      have : (nth o i).2 * F (nth o i).1 ≤ 16 * (1000 * D) := Int.mul_le_mul (by omega) h1.2 h1.1 (by omega)
      omega
    rw [Int.zero_mul] at this
    exact this
  have hseq : sumO o (fun q => q.2 * F q.1) = sumN (fun i => (nth o i).2 * F (nth o i).1) o.length := rfl
  rw [hseq]
  refine Con_intro Try.func74 rfl ok74 (Nat.le_of_ble_eq_true rfl) rfl ?_
  simp only [Try.f74, Option.getD_some, initSt2]
  simp (disch := first | (simp only [go_sem, Bool.and_self, eq_self]; done) | omega | (simp only [List.length_cons, List.length_nil]; omega)) only [go_sem, ↓reduceIte, Nat.reduceEqDiff, Nat.reduceAdd, Nat.reduceMul, Nat.reduceSub, Int.reduceToNat, Nat.reduceBEq, List.size_toArray, List.length_cons, List.length_nil, Bool.false_and, Bool.true_and, Bool.or_false, Bool.false_or, Bool.and_false, Bool.and_true, hal]
  refine WP_cut (fun st h => st 4 = .ptr 0 0 ∧ st 5 = .ptr 1 0 ∧ h.nx ≥ 2 ∧ h.bl 0 = some (.cells false false [I 0, I 0]) ∧ h.bl 1 = some (.cells false false [I (rdP (sumN (fun i => (nth o i).2 * F (nth o i).1) o.length) D).1, I (rdP (sumN (fun i => (nth o i).2 * F (nth o i).1) o.length) D).2])) ?_ ?_
  · refine WP_for 12 o.length (fun j st h => st 1 = .fn g caps ∧ st 4 = .ptr 0 0 ∧ st 5 = .ptr 1 0 ∧ st 10 = LP o ∧ st 11 = I o.length ∧ h.nx ≥ 2 ∧ h.bl 0 = some (.cells false false [I 0, I 0]) ∧ h.bl 1 = some (.cells false false [I (rdP (sumN (fun i => (nth o i).2 * F (nth o i).1) j) D).1, I (rdP (sumN (fun i => (nth o i).2 * F (nth o i).1) j) D).2])) (by simp (disch := first | (simp only [go_sem, Bool.and_self, eq_self]; done) | omega | (simp only [List.length_cons, List.length_nil]; omega)) only [go_sem, ↓reduceIte, Nat.reduceEqDiff, Nat.reduceAdd, Nat.reduceMul, Nat.reduceSub, Int.reduceToNat, Nat.reduceBEq, List.size_toArray, List.length_cons, List.length_nil, Bool.false_and, Bool.true_and, Bool.or_false, Bool.false_or, Bool.and_false, Bool.and_true]) ⟨by simp (disch := first | (simp only [go_sem, Bool.and_self, eq_self]; done) | omega | (simp only [List.length_cons, List.length_nil]; omega)) only [go_sem, ↓reduceIte, Nat.reduceEqDiff, Nat.reduceAdd, Nat.reduceMul, Nat.reduceSub, Int.reduceToNat, Nat.reduceBEq, List.size_toArray, List.length_cons, List.length_nil, Bool.false_and, Bool.true_and, Bool.or_false, Bool.false_or, Bool.and_false, Bool.and_true], by simp (disch := first | (simp only [go_sem, Bool.and_self, eq_self]; done) | omega | (simp only [List.length_cons, List.length_nil]; omega)) only [go_sem, ↓reduceIte, Nat.reduceEqDiff, Nat.reduceAdd, Nat.reduceMul, Nat.reduceSub, Int.reduceToNat, Nat.reduceBEq, List.size_toArray, List.length_cons, List.length_nil, Bool.false_and, Bool.true_and, Bool.or_false, Bool.false_or, Bool.and_false, Bool.and_true], by simp (disch := first | (simp only [go_sem, Bool.and_self, eq_self]; done) | omega | (simp only [List.length_cons, List.length_nil]; omega)) only [go_sem, ↓reduceIte, Nat.reduceEqDiff, Nat.reduceAdd, Nat.reduceMul, Nat.reduceSub, Int.reduceToNat, Nat.reduceBEq, List.size_toArray, List.length_cons, List.length_nil, Bool.false_and, Bool.true_and, Bool.or_false, Bool.false_or, Bool.and_false, Bool.and_true], by simp (disch := first | (simp only [go_sem, Bool.and_self, eq_self]; done) | omega | (simp only [List.length_cons, List.length_nil]; omega)) only [go_sem, ↓reduceIte, Nat.reduceEqDiff, Nat.reduceAdd, Nat.reduceMul, Nat.reduceSub, Int.reduceToNat, Nat.reduceBEq, List.size_toArray, List.length_cons, List.length_nil, Bool.false_and, Bool.true_and, Bool.or_false, Bool.false_or, Bool.and_false, Bool.and_true], by simp (disch := first | (simp only [go_sem, Bool.and_self, eq_self]; done) | omega | (simp only [List.length_cons, List.length_nil]; omega)) only [go_sem, ↓reduceIte, Nat.reduceEqDiff, Nat.reduceAdd, Nat.reduceMul, Nat.reduceSub, Int.reduceToNat, Nat.reduceBEq, List.size_toArray, List.length_cons, List.length_nil, Bool.false_and, Bool.true_and, Bool.or_false, Bool.false_or, Bool.and_false, Bool.and_true], by simp [Hp.alloc, Hp.put], by simp (disch := first | (simp only [go_sem, Bool.and_self, eq_self]; done) | omega | (simp only [List.length_cons, List.length_nil]; omega)) only [go_sem, ↓reduceIte, Nat.reduceEqDiff, Nat.reduceAdd, Nat.reduceMul, Nat.reduceSub, Int.reduceToNat, Nat.reduceBEq, List.size_toArray, List.length_cons, List.length_nil, Bool.false_and, Bool.true_and, Bool.or_false, Bool.false_or, Bool.and_false, Bool.and_true], ?_⟩ ?_
    · have : rdP (sumN (fun i => (nth o i).2 * F (nth o i).1) 0) D = (0, 1) := rdP_zero hD0
      rw [this]
      simp (disch := first | (simp only [go_sem, Bool.and_self, eq_self]; done) | omega | (simp only [List.length_cons, List.length_nil]; omega)) only [go_sem, ↓reduceIte, Nat.reduceEqDiff, Nat.reduceAdd, Nat.reduceMul, Nat.reduceSub, Int.reduceToNat, Nat.reduceBEq, List.size_toArray, List.length_cons, List.length_nil, Bool.false_and, Bool.true_and, Bool.or_false, Bool.false_or, Bool.and_false, Bool.and_true]
    rintro j st h hj s12 ⟨s1, s4, s5, s10, s11, hnx, b0, b1⟩
    by_cases hlt : j < o.length
    case neg =>
      have hje : j = o.length := by omega
      subst hje
      simp (disch := first | (simp only [go_sem, Bool.and_self, eq_self]; done) | omega | (simp only [List.length_cons, List.length_nil]; omega)) only [go_sem, ↓reduceIte, Nat.reduceEqDiff, Nat.reduceAdd, Nat.reduceMul, Nat.reduceSub, Int.reduceToNat, Nat.reduceBEq, List.size_toArray, List.length_cons, List.length_nil, Bool.false_and, Bool.true_and, Bool.or_false, Bool.false_or, Bool.and_false, Bool.and_true, s1, s4, s5, s10, s11, s12, hlt, b0, b1]
      exact hnx
    have hm : nth o j ∈ o := nth_mem hlt
    have hx := ho.x _ hm
    have hFq := hF _ hm
    have kg := fun h h' K => ConW_num (h := h) (h' := h') (K := K) (hc _ hm) rfl
    have hb := bd j (by omega)
    have hst : sumN (fun i => (nth o i).2 * F (nth o i).1) (j + 1) = sumN (fun i => (nth o i).2 * F (nth o i).1) j + (nth o j).2 * F (nth o j).1 := rfl
    generalize hq : nth o j = q at *
    have hSj : sumN (fun i => (nth o i).2 * F (nth o i).1) j ≤ 128000 * D := by
      have : 16000 * D * j ≤ 16000 * D * 8 := Int.mul_le_mul_of_nonneg_left (by omega) (by omega)
      omega
    generalize sumN (fun i => (nth o i).2 * F (nth o i).1) j = S at *
    generalize F q.1 = f at *
    have v1 := rdP_val (a := f) hD0
    have v2 := rdP_den (a := f) hD0
    have v3 := rdP_num hFq.1 hD0
    have u1 := rdP_val (a := S) hD0
    have u2 := rdP_den (a := S) hD0
    have u3 := rdP_num hb.1 hD0
    have key : rdP ((rdP S D).1 * (rdP f D).2 + q.2 * (rdP f D).1 * (rdP S D).2) ((rdP S D).2 * (rdP f D).2) = rdP (S + q.2 * f) D := by
      refine rdP_cross (Int.mul_pos u2.1 v2.1) hD0 ?_
      generalize rdP S D = u at *
      generalize rdP f D = v at *
      grind
    have n0 : ¬ 0 = h.nx := by omega
    have n0' : ¬ h.nx = 0 := by omega
    have n1 : ¬ 1 = h.nx := by omega
    have n1' : ¬ h.nx = 1 := by omega
    have n2 : ¬ 0 = h.nx + 1 := by omega
    have n3 : ¬ 1 = h.nx + 1 := by omega
    have n4 : ¬ h.nx = h.nx + 1 := by omega
    have n5 : ¬ h.nx + 1 = h.nx := by omega
    have hsx : ∀ (h : Hp) (x : Int), sealArgs h (I x :: caps) = some (I x :: caps, h) := fun h x => by
      show (sealA h (I x)).bind _ = _
      have : sealA h (I x) = some (I x, h) := rfl
      rw [this]
      show (sealArgs h caps).map _ = _
      rw [hse]; rfl
    generalize rdP S D = u at *
    generalize rdP f D = v at *
    have w1 : 0 ≤ u.1 * v.2 ∧ u.1 * v.2 ≤ 128000 * 1048576 * 1048576 := ⟨Int.mul_nonneg u3.1 (by omega), Int.mul_le_mul (by omega) (by omega) (by omega) (by omega)⟩
    have w2 : 0 ≤ q.2 * v.1 ∧ q.2 * v.1 ≤ 16 * (1000 * 1048576) := ⟨Int.mul_nonneg (by omega) v3.1, Int.mul_le_mul (by omega) (by omega) v3.1 (by omega)⟩
    have w3 : 0 ≤ q.2 * v.1 * u.2 ∧ q.2 * v.1 * u.2 ≤ 16 * (1000 * 1048576) * 1048576 := ⟨Int.mul_nonneg w2.1 (by omega), Int.mul_le_mul w2.2 (by omega) (by omega) (by omega)⟩
    have w4 : 0 < u.2 * v.2 ∧ u.2 * v.2 ≤ 1048576 * 1048576 := ⟨Int.mul_pos u2.1 v2.1, Int.mul_le_mul (by omega) (by omega) (by omega) (by omega)⟩
    have kr := fun h h' K => k70 (h := h) (h' := h') (K := K) (u.1 * v.2 + q.2 * v.1 * u.2) (u.2 * v.2) (by simp only [big]; omega) (by simp only [big]; omega) (by omega)
    rw [key] at kr
    simp (disch := first | (simp only [go_sem, Bool.and_self, eq_self]; done) | omega | (simp only [List.length_cons, List.length_nil]; omega)) only [go_sem, ↓reduceIte, Nat.reduceEqDiff, Nat.reduceAdd, Nat.reduceMul, Nat.reduceSub, Int.reduceToNat, Nat.reduceBEq, List.size_toArray, List.length_cons, List.length_nil, Bool.false_and, Bool.true_and, Bool.or_false, Bool.false_or, Bool.and_false, Bool.and_true, s1, s4, s5, s10, s11, s12, hlt, hq, hal, b0, b1, n0, n0', n1, n1', n2, n3, n4, n5, List.cons_append, List.nil_append, hsh, hsx, kg, kr]
    rw [ForK_normal]
    exact ⟨hlt, by simp (disch := first | (simp only [go_sem, Bool.and_self, eq_self]; done) | omega | (simp only [List.length_cons, List.length_nil]; omega)) only [go_sem, ↓reduceIte, Nat.reduceEqDiff, Nat.reduceAdd, Nat.reduceMul, Nat.reduceSub, Int.reduceToNat, Nat.reduceBEq, List.size_toArray, List.length_cons, List.length_nil, Bool.false_and, Bool.true_and, Bool.or_false, Bool.false_or, Bool.and_false, Bool.and_true, s12], by simp (disch := first | (simp only [go_sem, Bool.and_self, eq_self]; done) | omega | (simp only [List.length_cons, List.length_nil]; omega)) only [go_sem, ↓reduceIte, Nat.reduceEqDiff, Nat.reduceAdd, Nat.reduceMul, Nat.reduceSub, Int.reduceToNat, Nat.reduceBEq, List.size_toArray, List.length_cons, List.length_nil, Bool.false_and, Bool.true_and, Bool.or_false, Bool.false_or, Bool.and_false, Bool.and_true, s1], by simp (disch := first | (simp only [go_sem, Bool.and_self, eq_self]; done) | omega | (simp only [List.length_cons, List.length_nil]; omega)) only [go_sem, ↓reduceIte, Nat.reduceEqDiff, Nat.reduceAdd, Nat.reduceMul, Nat.reduceSub, Int.reduceToNat, Nat.reduceBEq, List.size_toArray, List.length_cons, List.length_nil, Bool.false_and, Bool.true_and, Bool.or_false, Bool.false_or, Bool.and_false, Bool.and_true, s4], by simp (disch := first | (simp only [go_sem, Bool.and_self, eq_self]; done) | omega | (simp only [List.length_cons, List.length_nil]; omega)) only [go_sem, ↓reduceIte, Nat.reduceEqDiff, Nat.reduceAdd, Nat.reduceMul, Nat.reduceSub, Int.reduceToNat, Nat.reduceBEq, List.size_toArray, List.length_cons, List.length_nil, Bool.false_and, Bool.true_and, Bool.or_false, Bool.false_or, Bool.and_false, Bool.and_true, s5], by simp (disch := first | (simp only [go_sem, Bool.and_self, eq_self]; done) | omega | (simp only [List.length_cons, List.length_nil]; omega)) only [go_sem, ↓reduceIte, Nat.reduceEqDiff, Nat.reduceAdd, Nat.reduceMul, Nat.reduceSub, Int.reduceToNat, Nat.reduceBEq, List.size_toArray, List.length_cons, List.length_nil, Bool.false_and, Bool.true_and, Bool.or_false, Bool.false_or, Bool.and_false, Bool.and_true, s10], by simp (disch := first | (simp only [go_sem, Bool.and_self, eq_self]; done) | omega | (simp only [List.length_cons, List.length_nil]; omega)) only [go_sem, ↓reduceIte, Nat.reduceEqDiff, Nat.reduceAdd, Nat.reduceMul, Nat.reduceSub, Int.reduceToNat, Nat.reduceBEq, List.size_toArray, List.length_cons, List.length_nil, Bool.false_and, Bool.true_and, Bool.or_false, Bool.false_or, Bool.and_false, Bool.and_true, s11], by simp only [Hp.alloc, Hp.put]; omega, by simp (disch := first | (simp only [go_sem, Bool.and_self, eq_self]; done) | omega | (simp only [List.length_cons, List.length_nil]; omega)) only [go_sem, ↓reduceIte, Nat.reduceEqDiff, Nat.reduceAdd, Nat.reduceMul, Nat.reduceSub, Int.reduceToNat, Nat.reduceBEq, List.size_toArray, List.length_cons, List.length_nil, Bool.false_and, Bool.true_and, Bool.or_false, Bool.false_or, Bool.and_false, Bool.and_true, b0, n0, n0', n2], by rw [hst]; simp (disch := first | (simp only [go_sem, Bool.and_self, eq_self]; done) | omega | (simp only [List.length_cons, List.length_nil]; omega)) only [go_sem, ↓reduceIte, Nat.reduceEqDiff, Nat.reduceAdd, Nat.reduceMul, Nat.reduceSub, Int.reduceToNat, Nat.reduceBEq, List.size_toArray, List.length_cons, List.length_nil, Bool.false_and, Bool.true_and, Bool.or_false, Bool.false_or, Bool.and_false, Bool.and_true, n1, n1', n3]⟩
  · rintro st h ⟨s4, s5, hnx, b0, b1⟩
    have hb := bd o.length (Nat.le_refl _)
    have hSj : sumN (fun i => (nth o i).2 * F (nth o i).1) o.length ≤ 128000 * D := by
      have : 16000 * D * o.length ≤ 16000 * D * 8 := Int.mul_le_mul_of_nonneg_left (by omega) (by omega)
      omega
    generalize sumN (fun i => (nth o i).2 * F (nth o i).1) o.length = S at *
    have u1 := rdP_val (a := S) hD0
    have u2 := rdP_den (a := S) hD0
    have u3 := rdP_num hb.1 hD0
    have key : rdP (rdP S D).1 ((rdP S D).2 * 16) = rdP S D' := by
      refine rdP_cross (by omega) (by omega) ?_
      generalize rdP S D = u at *
      grind
    generalize rdP S D = u at *
    have kr := fun h h' K => k70 (h := h) (h' := h') (K := K) u.1 (u.2 * 16) (by simp only [big]; omega) (by simp only [big]; omega) (by omega)
    rw [key] at kr
    simp (disch := first | (simp only [go_sem, Bool.and_self, eq_self]; done) | omega | (simp only [List.length_cons, List.length_nil]; omega)) only [go_sem, ↓reduceIte, Nat.reduceEqDiff, Nat.reduceAdd, Nat.reduceMul, Nat.reduceSub, Int.reduceToNat, Nat.reduceBEq, List.size_toArray, List.length_cons, List.length_nil, Bool.false_and, Bool.true_and, Bool.or_false, Bool.false_or, Bool.and_false, Bool.and_true, s4, s5, b0, b1, kr]
    rfl
end Go.Proofs.Ytgamcclfdkpcgaa

set_option linter.unusedVariables false
set_option linter.unusedSimpArgs false
set_option maxRecDepth 10000
namespace Go.Proofs.Ytgamcclfdkpcgaa
open Go Go.Am

variable {h h' : Hp} {K : AV → Hp → Prop}

theorem sealA_fnL (g : FuncId) (id : Nat) (fz row : Bool) (xs : List AV) (hx : AV.pureL xs = true) (hb : h.bl id = some (.cells fz row xs)) : sealA h (.fn g [.ptr id 0]) = some (.fn g [.pp xs], h.put id (some (.cells true row xs))) := by
  have hp : (AV.fn g [.ptr id 0]).isPure = false := rfl
  have s1 : sealV h (.ptr id 0) = some (.pp xs, h.put id (some (.cells true row xs))) := by
    show sealV0 h (.ptr id 0) = _
    unfold sealV0
    rw [if_neg (by simp [AV.isPure])]
    simp only [hb]
    rw [if_pos ⟨hx, Nat.zero_le _⟩]; rfl
  simp only [sealA, hp, sealCells, s1, Option.bind_some, Option.map_some]
  rfl
theorem sealA_fnLL (g : FuncId) (i j : Nat) (fz row fz' row' : Bool) (xs ys : List AV) (hx : AV.pureL xs = true) (hy : AV.pureL ys = true) (hij : j ≠ i) (hb : h.bl i = some (.cells fz row xs)) (hb' : h.bl j = some (.cells fz' row' ys)) :
    sealA h (.fn g [.ptr i 0, .ptr j 0]) = some (.fn g [.pp xs, .pp ys], (h.put i (some (.cells true row xs))).put j (some (.cells true row' ys))) := by
  have hp : (AV.fn g [.ptr i 0, .ptr j 0]).isPure = false := rfl
  have one : ∀ (h : Hp) (id : Nat) (fz row : Bool) (xs : List AV), AV.pureL xs = true → h.bl id = some (.cells fz row xs) → sealV h (.ptr id 0) = some (.pp xs, h.put id (some (.cells true row xs))) := by
    intro h id fz row xs hx hb
    show sealV0 h (.ptr id 0) = _
    unfold sealV0
    rw [if_neg (by simp [AV.isPure])]
    simp only [hb]
    rw [if_pos ⟨hx, Nat.zero_le _⟩]; rfl
  have s1 := one h i fz row xs hx hb
  have s2 := one (h.put i (some (.cells true row xs))) j fz' row' ys hy (by rw [put_bl, if_neg hij]; exact hb')
  simp only [sealA, hp, sealCells, s1, s2, Option.bind_some, Option.map_some]
  rfl
theorem pw_le {k : Nat} (hk : k ≤ 6) : 1 ≤ pw k ∧ pw k ≤ 16777216 := by
  have h0 := pw_pos k
  have h1 : (16 : Nat) ^ k ≤ 16 ^ 6 := Nat.pow_le_pow_right (by decide) hk
  have h2 : ((16 ^ k : Nat) : Int) = pw k := by simp [pw]
  have : (16 : Nat) ^ 6 = 16777216 := by decide
  omega
theorem pw_le5 {k : Nat} (hk : k ≤ 5) : 1 ≤ pw k ∧ pw k ≤ 1048576 := by
  have h0 := pw_pos k
  have h1 : (16 : Nat) ^ k ≤ 16 ^ 5 := Nat.pow_le_pow_right (by decide) hk
  have h2 : ((16 ^ k : Nat) : Int) = pw k := by simp [pw]
  have : (16 : Nat) ^ 5 = 1048576 := by decide
  omega
structure Offs (l : List (List (Int × Int))) : Prop where
  len : l.length ≤ 6
  ok : ∀ o ∈ l, OffOK o
theorem Offs.tail {o : List (Int × Int)} {os : List (List (Int × Int))} (h : Offs (o :: os)) : Offs os ∧ os.length ≤ 5 ∧ OffOK o :=
  ⟨⟨by have := h.len; simp at this; omega, fun x hx => h.ok x (by simp [hx])⟩, by have := h.len; simp at this; omega, h.ok o (by simp)⟩

/-! ### The greatest -/
theorem f60_con : ∀ (l : List (List (Int × Int))), Offs l → ∀ most : Int, 0 ≤ most ∧ most ≤ 1000 → Con Try.prog cfg 60 [LLP l, I most] (FR (rdP (gI l most) (pw l.length))) := by
  intro l
  induction l with
  | nil =>
    intro hl most hm
    have hr : rdP (gI [] most) (pw ([] : List (List (Int × Int))).length) = (most, 1) := rdP_one most
    have z0 : ((0 : Nat) : Int) = 0 := rfl
    rw [hr]
    refine Con_intro Try.func60 rfl ok60 (Nat.le_of_ble_eq_true rfl) rfl ?_
    simp only [Try.f60, Option.getD_some, initSt2]
    simp (disch := first | (simp only [go_sem, Bool.and_self, eq_self]; done) | omega | (simp only [List.length_cons, List.length_nil]; omega)) only [go_sem, ↓reduceIte, Nat.reduceEqDiff, Nat.reduceAdd, Nat.reduceMul, Nat.reduceSub, Int.reduceToNat, Nat.reduceBEq, List.size_toArray, List.length_cons, List.length_nil, Bool.false_and, Bool.true_and, Bool.or_false, Bool.false_or, Bool.and_false, Bool.and_true, k73, z0, eq_self, decide_true]
    rfl
  | cons o os ih =>
    intro hl most hm
    obtain ⟨hos, hlen, ho⟩ := hl.tail
    have hg : ∀ most, (sumO o fun q => q.2 * gI os (max most q.1)) = gI (o :: os) most := fun _ => rfl
    have hl1 : (o :: os).length = os.length + 1 := rfl
    have n0 : nth (o :: os) 0 = o := rfl
    have hd : (o :: os).drop 1 = os := rfl
    generalize o :: os = l at *
    have hpl : AV.pureL [LLP l] = true := by rw [AV.pureL, pure_L]; rfl
    have c75 : ∀ q ∈ o, Con Try.prog cfg 75 [I q.1, .pp [LLP l], .pp [I most]] (FR (rdP (gI os (max most q.1)) (pw os.length))) := by
      intro q hq
      have hx := ho.x q hq
      have k60 := fun h h' K => ConW_num (h := h) (h' := h') (K := K) (ih hos (max most q.1) (by omega)) rfl
      generalize rdP (gI os (max most q.1)) (pw os.length) = r at *
      refine Con_intro Try.func75 rfl ok75 (Nat.le_of_ble_eq_true rfl) rfl ?_
      simp only [Try.f75, Option.getD_some, initSt3]
      simp (disch := first | (simp only [go_sem, Bool.and_self, eq_self]; done) | omega | (simp only [List.length_cons, List.length_nil]; omega)) only [go_sem, ↓reduceIte, Nat.reduceEqDiff, Nat.reduceAdd, Nat.reduceMul, Nat.reduceSub, Int.reduceToNat, Nat.reduceBEq, List.size_toArray, List.length_cons, List.length_nil, Bool.false_and, Bool.true_and, Bool.or_false, Bool.false_or, Bool.and_false, Bool.and_true, hd, k60]
      rfl
    have c74 := f74_con ho 75 [.pp [LLP l], .pp [I most]] rfl (fun h => by simp only [sealArgs, sealA_pp _ hpl, sealA_pp _ (show AV.pureL [I most] = true from rfl), Option.bind_some, Option.map_some]) (fun x => gI os (max most x)) os.length hlen (fun q hq => by
      have hx := ho.x q hq
      have := gI_b hos.ok (max most q.1) (by omega)
      have hp := pw_pos os.length
      have h0 : 0 ≤ max most q.1 * pw os.length := Int.mul_nonneg (by omega) (by omega)
      omega) c75
    rw [hg] at c74
    have k74 := fun h h' K => ConW_num (h := h) (h' := h') (K := K) c74 rfl
    have hne : ¬ ((os.length + 1 : Nat) : Int) = 0 := by omega
    have z0 : (0 : Int) < ((os.length + 1 : Nat) : Int) := by omega
    have z1 : (1 : Int) ≤ ((os.length + 1 : Nat) : Int) := by omega
    have hse := sealA_fnLL (h := ((Hp.empty.alloc (.cells false false [LLP l])).alloc (.cells false false [I most])).alloc (.cells false false [I 0, I 0])) 75 0 1 false false false false _ _ hpl (show AV.pureL [I most] = true from rfl) (by decide) rfl rfl
    rw [hl1]
    generalize rdP (gI l most) (pw (os.length + 1)) = r at *
    refine Con_intro Try.func60 rfl ok60 (Nat.le_of_ble_eq_true rfl) rfl ?_
    simp only [Try.f60, Option.getD_some, initSt2]
    simp (disch := first | (simp only [go_sem, Bool.and_self, eq_self]; done) | omega | (simp only [List.length_cons, List.length_nil]; omega)) only [go_sem, ↓reduceIte, Nat.reduceEqDiff, Nat.reduceAdd, Nat.reduceMul, Nat.reduceSub, Int.reduceToNat, Nat.reduceBEq, List.size_toArray, List.length_cons, List.length_nil, Bool.false_and, Bool.true_and, Bool.or_false, Bool.false_or, Bool.and_false, Bool.and_true, hl1, hne, z0, n0, hse, k74]
    rfl

/-! ### The best rule's gain -/
theorem whole_less {x W D : Int} (hD : 0 < D) : (rdP W D).1 < x * (rdP W D).2 ↔ W < x * D := by
  have h1 := rdP_val (a := W) hD
  have h2 := rdP_den (a := W) hD
  generalize rdP W D = u at *
  constructor
  · intro h
    have := Int.mul_lt_mul_of_pos_right h hD
    have e : x * u.2 * D = (x * D) * u.2 := by grind
    rw [h1, e] at this
    exact Int.lt_of_mul_lt_mul_right this (by omega)
  · intro h
    have := Int.mul_lt_mul_of_pos_right h h2.1
    have e : x * D * u.2 = (x * u.2) * D := by grind
    rw [← h1, e] at this
    exact Int.lt_of_mul_lt_mul_right this (by omega)
theorem rdP_whole (x : Int) {D : Int} (hD : 0 < D) : rdP (x * D) D = (x, 1) := by
  rw [← rdP_one x]; exact rdP_cross hD (by decide) (by omega)
theorem f76_con {x W D : Int} (hx : 0 ≤ x ∧ x ≤ 1000) (hD : 0 < D ∧ D ≤ 1048576) (hW : 0 ≤ W ∧ W ≤ 1000 * D) : Con Try.prog cfg 76 [I x, .pp [I (rdP W D).1, I (rdP W D).2]] (FR (rdP (max (x * D) W) D)) := by
  have v1 := whole_less (x := x) (W := W) hD.1
  have v2 := rdP_den (a := W) hD.1
  have v3 := rdP_num hW.1 hD.1
  by_cases c : W < x * D
  · have hr : rdP (max (x * D) W) D = (x, 1) := by rw [show max (x * D) W = x * D by omega]; exact rdP_whole x hD.1
    rw [hr]
    have c1 := v1.2 c
    generalize rdP W D = u at *
    have m1 : 0 ≤ x * u.2 ∧ x * u.2 ≤ 1000 * 1048576 := ⟨Int.mul_nonneg hx.1 (by omega), Int.mul_le_mul hx.2 (by omega) (by omega) (by omega)⟩
    have k52 := fun h h' K => ConW_num (h := h) (h' := h') (K := K) (f52_con (x, 1) u (by simp only [big]; omega) (by simp only [big]; omega)) rfl
    have hc : decide (0 < cmpP (x, 1) u) = true := by
      rw [cmpP, if_neg (by simp only; omega), if_pos (by simp only; omega)]; rfl
    refine Con_intro Try.func76 rfl ok76 (Nat.le_of_ble_eq_true rfl) rfl ?_
    simp only [Try.f76, Option.getD_some, initSt2]
    simp (disch := first | (simp only [go_sem, Bool.and_self, eq_self]; done) | omega | (simp only [List.length_cons, List.length_nil]; omega)) only [go_sem, ↓reduceIte, Nat.reduceEqDiff, Nat.reduceAdd, Nat.reduceMul, Nat.reduceSub, Int.reduceToNat, Nat.reduceBEq, List.size_toArray, List.length_cons, List.length_nil, Bool.false_and, Bool.true_and, Bool.or_false, Bool.false_or, Bool.and_false, Bool.and_true, k73, k52, hc]
    rfl
  · have hr : rdP (max (x * D) W) D = rdP W D := by rw [show max (x * D) W = W by omega]
    rw [hr]
    have c1 : ¬ _ := fun h => c (v1.1 h)
    generalize rdP W D = u at *
    have m1 : 0 ≤ x * u.2 ∧ x * u.2 ≤ 1000 * 1048576 := ⟨Int.mul_nonneg hx.1 (by omega), Int.mul_le_mul hx.2 (by omega) (by omega) (by omega)⟩
    have k52 := fun h h' K => ConW_num (h := h) (h' := h') (K := K) (f52_con (x, 1) u (by simp only [big]; omega) (by simp only [big]; omega)) rfl
    have hc : decide (0 < cmpP (x, 1) u) = false := by
      rw [cmpP]
      by_cases c2 : (x, (1 : Int)).1 * u.2 < u.1 * (x, (1 : Int)).2
      · rw [if_pos c2]; rfl
      · rw [if_neg c2, if_neg (by simp only at c2 ⊢; omega)]; rfl
    refine Con_intro Try.func76 rfl ok76 (Nat.le_of_ble_eq_true rfl) rfl ?_
    simp only [Try.f76, Option.getD_some, initSt2]
    simp (disch := first | (simp only [go_sem, Bool.and_self, eq_self]; done) | omega | (simp only [List.length_cons, List.length_nil]; omega)) only [go_sem, ↓reduceIte, Nat.reduceEqDiff, Nat.reduceAdd, Nat.reduceMul, Nat.reduceSub, Int.reduceToNat, Nat.reduceBEq, List.size_toArray, List.length_cons, List.length_nil, Bool.false_and, Bool.true_and, Bool.or_false, Bool.false_or, Bool.and_false, Bool.and_true, k73, k52, hc]
    rfl
theorem f61_con : ∀ (l : List (List (Int × Int))), Offs l → Con Try.prog cfg 61 [LLP l] (FR (rdP (wI l) (pw l.length))) := by
  intro l
  induction l with
  | nil =>
    intro hl
    have hr : rdP (wI []) (pw ([] : List (List (Int × Int))).length) = (0, 1) := rdP_one 0
    have z0 : ((0 : Nat) : Int) = 0 := rfl
    rw [hr]
    refine Con_intro Try.func61 rfl ok61 (Nat.le_of_ble_eq_true rfl) rfl ?_
    simp only [Try.f61, Option.getD_some, initSt1]
    simp (disch := first | (simp only [go_sem, Bool.and_self, eq_self]; done) | omega | (simp only [List.length_cons, List.length_nil]; omega)) only [go_sem, ↓reduceIte, Nat.reduceEqDiff, Nat.reduceAdd, Nat.reduceMul, Nat.reduceSub, Int.reduceToNat, Nat.reduceBEq, List.size_toArray, List.length_cons, List.length_nil, Bool.false_and, Bool.true_and, Bool.or_false, Bool.false_or, Bool.and_false, Bool.and_true, k73, z0, eq_self, decide_true]
    rfl
  | cons o os ih =>
    intro hl
    obtain ⟨hos, hlen, ho⟩ := hl.tail
    have hg : (sumO o fun q => q.2 * max (q.1 * pw os.length) (wI os)) = wI (o :: os) := rfl
    have hl1 : (o :: os).length = os.length + 1 := rfl
    have n0 : nth (o :: os) 0 = o := rfl
    have hd : (o :: os).drop 1 = os := rfl
    generalize o :: os = l at *
    have hp := pw_le5 hlen
    have hw := wI_b hos.ok
    have k61 := fun h h' K => ConW_num (h := h) (h' := h') (K := K) (ih hos) rfl
    have c74 := f74_con ho 76 [.pp [I (rdP (wI os) (pw os.length)).1, I (rdP (wI os) (pw os.length)).2]] rfl (fun h => rfl) (fun x => max (x * pw os.length) (wI os)) os.length hlen (fun q hq => by
      have hx := ho.x q hq
      have h0 : 0 ≤ q.1 * pw os.length := Int.mul_nonneg (by omega) (by omega)
      have h1 : q.1 * pw os.length ≤ 1000 * pw os.length := Int.mul_le_mul_of_nonneg_right (by omega) (by omega)
      omega) (fun q hq => f76_con (ho.x q hq).1 (by omega) hw)
    rw [hg] at c74
    have k74 := fun h h' K => ConW_num (h := h) (h' := h') (K := K) c74 rfl
    have hne : ¬ ((os.length + 1 : Nat) : Int) = 0 := by omega
    have z0 : (0 : Int) < ((os.length + 1 : Nat) : Int) := by omega
    have z1 : (1 : Int) ≤ ((os.length + 1 : Nat) : Int) := by omega
    generalize rdP (wI os) (pw os.length) = u at *
    have hal : ∀ (g : Hp) (x y : Int), allocB g (some (.agg [I x, I y])) = some (.ptr g.nx 0, g.alloc (.cells false false [I x, I y])) := fun g x y => allocB_agg _ rfl
    have hse := sealA_fnL (h := ((Hp.empty.alloc (.cells false false [I 0, I 0])).alloc (.cells false false [I 0, I 0])).put 1 (some (.cells false false [I u.1, I u.2]))) 76 1 false false _ (show AV.pureL [I u.1, I u.2] = true from rfl) rfl
    rw [hl1]
    generalize rdP (wI l) (pw (os.length + 1)) = r at *
    refine Con_intro Try.func61 rfl ok61 (Nat.le_of_ble_eq_true rfl) rfl ?_
    simp only [Try.f61, Option.getD_some, initSt1]
    simp (disch := first | (simp only [go_sem, Bool.and_self, eq_self]; done) | omega | (simp only [List.length_cons, List.length_nil]; omega)) only [go_sem, ↓reduceIte, Nat.reduceEqDiff, Nat.reduceAdd, Nat.reduceMul, Nat.reduceSub, Int.reduceToNat, Nat.reduceBEq, List.size_toArray, List.length_cons, List.length_nil, Bool.false_and, Bool.true_and, Bool.or_false, Bool.false_or, Bool.and_false, Bool.and_true, hl1, hne, z0, z1, n0, hd, hal, k61, hse, k74]
    rfl

/-! ### A threshold -/
theorem f77_con {x t W D : Int} (hD : 0 < D) : Con Try.prog cfg 77 [I x, .pp [I t], .pp [I (rdP W D).1, I (rdP W D).2]] (FR (rdP (if t ≤ x then x * D else W) D)) := by
  by_cases c : t ≤ x
  · have hr : rdP (if t ≤ x then x * D else W) D = (x, 1) := by rw [if_pos c]; exact rdP_whole x hD
    rw [hr]
    generalize rdP W D = u at *
    refine Con_intro Try.func77 rfl ok77 (Nat.le_of_ble_eq_true rfl) rfl ?_
    simp only [Try.f77, Option.getD_some, initSt3]
    simp (disch := first | (simp only [go_sem, Bool.and_self, eq_self]; done) | omega | (simp only [List.length_cons, List.length_nil]; omega)) only [go_sem, ↓reduceIte, Nat.reduceEqDiff, Nat.reduceAdd, Nat.reduceMul, Nat.reduceSub, Int.reduceToNat, Nat.reduceBEq, List.size_toArray, List.length_cons, List.length_nil, Bool.false_and, Bool.true_and, Bool.or_false, Bool.false_or, Bool.and_false, Bool.and_true, k73, c]
    rfl
  · rw [if_neg c]
    generalize rdP W D = u at *
    refine Con_intro Try.func77 rfl ok77 (Nat.le_of_ble_eq_true rfl) rfl ?_
    simp only [Try.f77, Option.getD_some, initSt3]
    simp (disch := first | (simp only [go_sem, Bool.and_self, eq_self]; done) | omega | (simp only [List.length_cons, List.length_nil]; omega)) only [go_sem, ↓reduceIte, Nat.reduceEqDiff, Nat.reduceAdd, Nat.reduceMul, Nat.reduceSub, Int.reduceToNat, Nat.reduceBEq, List.size_toArray, List.length_cons, List.length_nil, Bool.false_and, Bool.true_and, Bool.or_false, Bool.false_or, Bool.and_false, Bool.and_true, k73, c]
    rfl
theorem f62_con (t : Int) : ∀ (l : List (List (Int × Int))), Offs l → Con Try.prog cfg 62 [LLP l, I t] (FR (rdP (tI t l) (pw l.length))) := by
  intro l
  induction l with
  | nil =>
    intro hl
    have hr : rdP (tI t []) (pw ([] : List (List (Int × Int))).length) = (0, 1) := rdP_one 0
    have z0 : ((0 : Nat) : Int) = 0 := rfl
    rw [hr]
    refine Con_intro Try.func62 rfl ok62 (Nat.le_of_ble_eq_true rfl) rfl ?_
    simp only [Try.f62, Option.getD_some, initSt2]
    simp (disch := first | (simp only [go_sem, Bool.and_self, eq_self]; done) | omega | (simp only [List.length_cons, List.length_nil]; omega)) only [go_sem, ↓reduceIte, Nat.reduceEqDiff, Nat.reduceAdd, Nat.reduceMul, Nat.reduceSub, Int.reduceToNat, Nat.reduceBEq, List.size_toArray, List.length_cons, List.length_nil, Bool.false_and, Bool.true_and, Bool.or_false, Bool.false_or, Bool.and_false, Bool.and_true, k73, z0, eq_self, decide_true]
    rfl
  | cons o os ih =>
    intro hl
    obtain ⟨hos, hlen, ho⟩ := hl.tail
    have hg : (sumO o fun q => q.2 * (if t ≤ q.1 then q.1 * pw os.length else tI t os)) = tI t (o :: os) := rfl
    have hl1 : (o :: os).length = os.length + 1 := rfl
    have n0 : nth (o :: os) 0 = o := rfl
    have hd : (o :: os).drop 1 = os := rfl
    generalize o :: os = l at *
    have hp := pw_le5 hlen
    have hw := tI_b hos.ok t
    have hw2 := wI_b hos.ok
    have k62 := fun h h' K => ConW_num (h := h) (h' := h') (K := K) (ih hos) rfl
    have c74 := f74_con ho 77 [.pp [I t], .pp [I (rdP (tI t os) (pw os.length)).1, I (rdP (tI t os) (pw os.length)).2]] rfl (fun h => rfl) (fun x => if t ≤ x then x * pw os.length else tI t os) os.length hlen (fun q hq => by
      have hx := ho.x q hq
      have h0 : 0 ≤ q.1 * pw os.length := Int.mul_nonneg (by omega) (by omega)
      have h1 : q.1 * pw os.length ≤ 1000 * pw os.length := Int.mul_le_mul_of_nonneg_right (by omega) (by omega)
      show 0 ≤ (if t ≤ q.1 then _ else _) ∧ (if t ≤ q.1 then _ else _) ≤ _
      split <;> omega) (fun q hq => f77_con (by omega))
    rw [hg] at c74
    have k74 := fun h h' K => ConW_num (h := h) (h' := h') (K := K) c74 rfl
    have hne : ¬ ((os.length + 1 : Nat) : Int) = 0 := by omega
    have z0 : (0 : Int) < ((os.length + 1 : Nat) : Int) := by omega
    have z1 : (1 : Int) ≤ ((os.length + 1 : Nat) : Int) := by omega
    generalize rdP (tI t os) (pw os.length) = u at *
    have hal : ∀ (g : Hp) (x y : Int), allocB g (some (.agg [I x, I y])) = some (.ptr g.nx 0, g.alloc (.cells false false [I x, I y])) := fun g x y => allocB_agg _ rfl
    have hse := sealA_fnLL (h := (((Hp.empty.alloc (.cells false false [I t])).alloc (.cells false false [I 0, I 0])).alloc (.cells false false [I 0, I 0])).put 2 (some (.cells false false [I u.1, I u.2]))) 77 0 2 false false false false _ _ (show AV.pureL [I t] = true from rfl) (show AV.pureL [I u.1, I u.2] = true from rfl) (by decide) rfl rfl
    rw [hl1]
    generalize rdP (tI t l) (pw (os.length + 1)) = r at *
    have h05 : st0 5 = .skp := rfl
    have h02 : decide ((0 : Nat) < 2) = true := rfl
    have h22 : decide ((2 : Nat) < 2) = false := rfl
    have h01 : decide ((0 : Nat) < 1) = true := rfl
    have h12 : decide ((1 : Nat) < 2) = true := rfl
    have h03 : decide ((2 : Nat) < 3) = true := rfl
    refine Con_intro Try.func62 rfl ok62 (Nat.le_of_ble_eq_true rfl) rfl ?_
    simp only [Try.f62, Option.getD_some, initSt2]
    simp (disch := first | (simp only [go_sem, Bool.and_self, eq_self]; done) | omega | (simp only [List.length_cons, List.length_nil]; omega)) only [go_sem, ↓reduceIte, Nat.reduceEqDiff, Nat.reduceAdd, Nat.reduceMul, Nat.reduceSub, Int.reduceToNat, Nat.reduceBEq, List.size_toArray, List.length_cons, List.length_nil, Bool.false_and, Bool.true_and, Bool.or_false, Bool.false_or, Bool.and_false, Bool.and_true, hl1, h05, h02, h22, h01, h12, h03, hne, z0, z1, n0, hd, hal, k62, hse, k74, List.filterMap_cons, List.filterMap_nil, List.contains_nil, Bool.not_false, Bool.or_true, Bool.true_or, decide_true, List.contains_cons]
    rfl

/-! ### The program's answers -/
def proR (l : List (List (Int × Int))) : AV := if offsB l then .tup [FR (rdP (gI l 0) (pw l.length)), FR (rdP (wI l) (pw l.length)), I 0] else .tup [FR (0, 0), FR (0, 0), I 2]
def thrR (l : List (List (Int × Int))) (t : Int) : AV := if offsB l then .tup [FR (rdP (tI t l) (pw l.length)), I 0] else .tup [FR (0, 0), I 2]
theorem Offs.of {l : List (List (Int × Int))} (h : offsB l = true) : Offs l := ⟨(offs_ok h).1, (offs_ok h).2⟩
theorem f39_con (l : List (List (Int × Int))) (hs : smallO l) : Con Try.prog cfg 39 [LLP l] (proR l) := by
  have k59' := fun h h' K => k59 (h := h) (h' := h') (K := K) l hs
  cases ho : offsB l with
  | false =>
    have hr : proR l = .tup [FR (0, 0), FR (0, 0), I 2] := by simp [proR, ho]
    rw [hr]
    refine Con_intro Try.func39 rfl ok39 (Nat.le_of_ble_eq_true rfl) rfl ?_
    simp only [Try.f39, Option.getD_some, initSt1]
    simp (disch := first | (simp only [go_sem, Bool.and_self, eq_self]; done) | omega | (simp only [List.length_cons, List.length_nil]; omega)) only [go_sem, ↓reduceIte, Nat.reduceEqDiff, Nat.reduceAdd, Nat.reduceMul, Nat.reduceSub, Int.reduceToNat, Nat.reduceBEq, List.size_toArray, List.length_cons, List.length_nil, Bool.false_and, Bool.true_and, Bool.or_false, Bool.false_or, Bool.and_false, Bool.and_true, k59', ho]
  | true =>
    have hr : proR l = .tup [FR (rdP (gI l 0) (pw l.length)), FR (rdP (wI l) (pw l.length)), I 0] := by simp [proR, ho]
    have k60 := fun h h' K => ConW_num (h := h) (h' := h') (K := K) (f60_con l (Offs.of ho) 0 (by decide)) rfl
    have k61 := fun h h' K => ConW_num (h := h) (h' := h') (K := K) (f61_con l (Offs.of ho)) rfl
    rw [hr]
    generalize rdP (gI l 0) (pw l.length) = u at *
    generalize rdP (wI l) (pw l.length) = v at *
    refine Con_intro Try.func39 rfl ok39 (Nat.le_of_ble_eq_true rfl) rfl ?_
    simp only [Try.f39, Option.getD_some, initSt1]
    simp (disch := first | (simp only [go_sem, Bool.and_self, eq_self]; done) | omega | (simp only [List.length_cons, List.length_nil]; omega)) only [go_sem, ↓reduceIte, Nat.reduceEqDiff, Nat.reduceAdd, Nat.reduceMul, Nat.reduceSub, Int.reduceToNat, Nat.reduceBEq, List.size_toArray, List.length_cons, List.length_nil, Bool.false_and, Bool.true_and, Bool.or_false, Bool.false_or, Bool.and_false, Bool.and_true, k59', ho, k60, k61]
theorem f40_con (l : List (List (Int × Int))) (hs : smallO l) (t : Int) : Con Try.prog cfg 40 [LLP l, I t] (thrR l t) := by
  have k59' := fun h h' K => k59 (h := h) (h' := h') (K := K) l hs
  cases ho : offsB l with
  | false =>
    have hr : thrR l t = .tup [FR (0, 0), I 2] := by simp [thrR, ho]
    rw [hr]
    refine Con_intro Try.func40 rfl ok40 (Nat.le_of_ble_eq_true rfl) rfl ?_
    simp only [Try.f40, Option.getD_some, initSt2]
    simp (disch := first | (simp only [go_sem, Bool.and_self, eq_self]; done) | omega | (simp only [List.length_cons, List.length_nil]; omega)) only [go_sem, ↓reduceIte, Nat.reduceEqDiff, Nat.reduceAdd, Nat.reduceMul, Nat.reduceSub, Int.reduceToNat, Nat.reduceBEq, List.size_toArray, List.length_cons, List.length_nil, Bool.false_and, Bool.true_and, Bool.or_false, Bool.false_or, Bool.and_false, Bool.and_true, k59', ho]
  | true =>
    have hr : thrR l t = .tup [FR (rdP (tI t l) (pw l.length)), I 0] := by simp [thrR, ho]
    have k62 := fun h h' K => ConW_num (h := h) (h' := h') (K := K) (f62_con t l (Offs.of ho)) rfl
    rw [hr]
    generalize rdP (tI t l) (pw l.length) = u at *
    refine Con_intro Try.func40 rfl ok40 (Nat.le_of_ble_eq_true rfl) rfl ?_
    simp only [Try.f40, Option.getD_some, initSt2]
    simp (disch := first | (simp only [go_sem, Bool.and_self, eq_self]; done) | omega | (simp only [List.length_cons, List.length_nil]; omega)) only [go_sem, ↓reduceIte, Nat.reduceEqDiff, Nat.reduceAdd, Nat.reduceMul, Nat.reduceSub, Int.reduceToNat, Nat.reduceBEq, List.size_toArray, List.length_cons, List.length_nil, Bool.false_and, Bool.true_and, Bool.or_false, Bool.false_or, Bool.and_false, Bool.and_true, k59', ho, k62]
end Go.Proofs.Ytgamcclfdkpcgaa
