/-
  rules: what the closure hands to the body of a range over it.
  best: the first rule whose values cannot be improved.
  awake: run as it stands, with the answer of best put in.
  Rules for fractions.
  within, gcd, reduced; the reference's.
  Candidates.
  Small helpers of the chain laws: remainders, a list's entry, the greatest divisor, small fractions.
  Offers: means as whole numbers over powers of 16; the plain laws.
  Determinants: columns, Cramer's rule, bounds.
  Fractions that are equal; what they lie between.
  Elimination: what it keeps, and how large its numbers are.
  Elimination: numbers stay small; what comes out.
  Elimination: bounds, and Cramer's answers.
  Chains: rules, their values, the best values.
  Chains: some rule is best, and no two best ones differ.
  The equations in memory; equationsOf.
  Copies of chains; tests of chains and rules.
-/
import Derived.Test.YtgamcclfdkpcgaaL2Facts
import Derived.Test.YtgamcclfdkpcgaaAmRange
import Derived.Test.YtgamcclfdkpcgaaAmEnd
import Derived.Test.YtgamcclfdkpcgaaAmFor
set_option linter.unusedVariables false
set_option linter.unusedSimpArgs false
set_option maxRecDepth 10000
namespace Go.Proofs.Ytgamcclfdkpcgaa
open Go Go.Am Go.RowKit

variable {h h' : Hp} {K : AV → Hp → Prop}

theorem hext0 : ExtOk Try.prog cfg := fun _ _ _ h => by cases h
theorem hlate0 : ∀ id n, cfg.late id n = [] := fun _ _ => rfl
/-- The rule of a number: its bits. -/
def ruleN (n j x : Nat) : List Bool := fillR 6 (fun i => x.testBit i) false j
def uR (n x : Nat) : AV := .agg ((ruleN n n x).flatMap (e1 .bool))
def encR (n x : Nat) : Value := .agg ((ruleN n n x).map Value.bool).toArray
theorem ruleN_len (n j x : Nat) : (ruleN n j x).length = 6 := by simp [ruleN, fillR]
theorem encR_ok (n x : Nat) (w : World) (c : Ctx) : VR w c (uR n x) (encR n x) := by
  refine .agg _ _ (by rw [flat_len]; simp) (fun y hy => ?_) fun j y hj => ?_
  · obtain ⟨b, _, hb⟩ := List.mem_flatMap.1 hy
    simp only [e1, List.mem_singleton] at hb
    rw [hb]; rfl
  · have hlt : j < (ruleN n n x).length := by have := (List.getElem?_eq_some_iff.1 hj).1; rwa [flat_len] at this
    rw [flat_get _ _ _ hlt] at hj
    cases hj
    have : ((ruleN n n x).map Value.bool).toArray.getD j Go.undef = .bool (nth (ruleN n n x) j) := by
      rw [Array.getD_eq_getD_getElem?, List.getElem?_toArray, List.getElem?_map, nth_get hlt]; rfl
    rw [this]; exact .bool _

theorem flat_bools (bs : List Bool) (k : Nat) (hk : k < bs.length) : (bs.flatMap (e1 AV.bool))[k]? = some (.bool (nth bs k)) := flat_get _ _ _ hk

theorem roundIn_any {ro : Option Nat} {m m' : Nat} {P : Program} {l : Nat} {f : FuncId} {tmps : Array Value} {assign body : Code} {w : World} {R : Ending → World → Prop} (h : RoundIn (rF ro) m P l f tmps assign body w R) : RoundIn (rF ro) m' P l f tmps assign body w R :=
  ⟨h.1, fun c cs _ => h.2 c cs (room_wide _)⟩
theorem uR_inv {n x : Nat} {w : World} {c : Ctx} {v : Value} (h : VR w c (uR n x) v) : v = encR n x := by
  unfold uR at h
  generalize hq : (ruleN n n x).flatMap (e1 AV.bool) = q at h
  cases h with
  | agg _ vs hl hcell hv =>
    subst hq
    rw [flat_len] at hl
    unfold encR
    congr 1
    refine Array.ext (by simp [hl]) fun j h1 h2 => ?_
    have hj : j < (ruleN n n x).length := by omega
    have := hv j _ (flat_bools _ _ hj)
    rw [Array.getD_eq_getD_getElem?, Array.getElem?_eq_getElem h1, Option.getD_some] at this
    rw [this.bool_inv]
    simp [nth_getElem hj]

theorem not_run {P : Program} {ρ : Operand → Value} {w : World} {x : Operand} {b : Bool} {d : Option Nat} {t u : TypeId} {p : String} {es : Array Edge} (h : ρ x = .bool b) : (execOp ρ ⟨d, .unOp .not t x, u, p, es, none⟩).run P w = .ok (.value (.bool (!b))) w := by
  unfold execOp
  simp only [h]
  rfl

theorem rules_seq (n : Nat) (hn : n ≤ 6) (m : Nat) (ad : Addr) (w : World) (hb : ad.block < w.heap.size) (hcell : w.cell? ad = some (.int .i64 n)) :
    SeqC Try.prog m 81 #[.pointer (some ad)] (fun x : Nat => #[encR n x]) (fun xs => xs = List.range (2 ^ n)) (fun pre => pre <+: List.range (2 ^ n)) (2 ^ n) w := by
  intro l J Jx W hW hJ hY h0
  have hN6 : 2 ^ n ≤ 64 := by have := Nat.pow_le_pow_right (n := 2) (by decide) hn; omega
  have esh := fun t => shl_one (P := Try.prog) t n (by omega)
  obtain ⟨N, hN⟩ : ∃ N, N = 2 ^ n := ⟨_, rfl⟩
  rw [← hN] at esh hY hN6 ⊢
  have hcW : W.cell? ad = some (.int .i64 n) := (hW.cell (p := ad) hb).trans hcell
  have hbW : ad.block < W.heap.size := Nat.lt_of_lt_of_le hb hW.size
  obtain ⟨c0, hc0⟩ : ∃ c : Ctx, c = { base := W.heap.size, nx := 0, loc := fun _ => .dead, fz := fun k => k = ad.block } := ⟨_, rfl⟩
  have H0 : HR W c0 Hp.empty := by rw [hc0]; exact ctx_nil fun k hk => by rw [hk]; exact hbW
  have S0 : SR 28 W c0 (initSt [.undef, .pp [I n]]) { tmps := #[.func (.yield l) #[] #[], .pointer (some ad)] ++ Array.replicate (28 - 2) Go.undef, defers := [] } := by
    refine args_start (n := 28) ⟨rfl, fun j v hj => ?_⟩ (Nat.le_of_ble_eq_true rfl)
    match j, hj with
    | 0, hj => cases hj; exact .undef _
    | 1, hj =>
      cases hj
      refine .pp _ _ (fun _ => .int .i64 n) (fun _ => by rw [hc0]) (by simp [AV.isCell]) (fun j hj => ?_) (fun j y hy => ?_)
      · have : j = 0 := by simpa using hj
        subst this
        have e0 : ad.add 0 = ad := by unfold Addr.add; simp
        rw [e0]; exact hcW
      · have : j = 0 := by
          have := (List.getElem?_eq_some_iff.1 hy).1
          simpa using this
        subst this
        cases hy; exact .int _ _
  have hbase0 : c0.base = W.heap.size := by rw [hc0]
  refine callsIn_of_wp (fn := Try.f81) (c := Try.f81.body.getD .skip) Try.func81 rfl trivial ?_
  have hy0 : ({ tmps := #[.func (.yield l) #[] #[], .pointer (some ad)] ++ Array.replicate (28 - 2) Go.undef, defers := [] } : Act).tmps[0]? = some (.func (.yield l) #[] #[]) := by simp
  obtain ⟨a0, ha0⟩ : ∃ a0 : Act, { tmps := #[.func (.yield l) #[] #[], .pointer (some ad)] ++ Array.replicate (28 - 2) Go.undef, defers := [] } = a0 := ⟨_, rfl⟩
  rw [ha0] at S0 hy0
  have hgo : (Try.f81.body.getD .skip).wpIn (rF none) m Try.prog (bodyPost Try.prog Try.f81 fun e W' => (∃ v, e = .returned v) ∧ ((∃ xs, xs = List.range N ∧ J xs W') ∨ (∃ pre, pre <+: List.range N ∧ Jx pre W'))) a0 W := ?_
  · rw [← ha0] at hgo; exact hgo
  simp only [Try.f81, Option.getD_some]
  -- before the loop
  refine wpIn_seq (WP.in_ hext0 hlate0 0 rfl rfl (R := fun x st h => x = .normal ∧ st 1 = .pp [I n] ∧ st 7 = I N ∧ st 8 = I (0 : Nat)) ?_ H0 S0 ?_)
  · simp only [initSt2]
    simp (disch := first | (simp only [go_sem, gb0, eq_self]; done) | omega | (simp only [gl1, gl2]; omega)) only [go_sem, ↓reduceIte, Nat.reduceEqDiff, Nat.reduceAdd, Nat.reduceMul, Nat.reduceSub, Int.reduceToNat, Nat.reduceBEq, esh]
    rfl
  rintro x st h ⟨rfl, s1, s7, s8⟩ w1 c1 a1 E1 H1 S1 F1
  refine wpIn_block (wpIn_loop (fun a w' => ∃ ctx h st k, HR w' ctx h ∧ SR 28 w' ctx st a ∧ ctx.base = W.heap.size ∧ st 1 = .pp [I n] ∧ st 7 = I N ∧ st 8 = I (k : Nat) ∧ k ≤ N ∧ J (List.range k) w' ∧ a.tmps[0]? = some (.func (.yield l) #[] #[]))
    (fun a _ => N - (intOf (a.tmps.getD 8 Go.undef)).toNat) ?_ ?_)
  · refine ⟨c1, h, st, 0, H1, S1, E1.base.trans hbase0, s1, s7, s8, Nat.zero_le _, ?_, Eq.trans F1 hy0⟩
    have := E1.below
    rw [hbase0] at this
    exact hJ _ _ _ h0 this
  rintro a w2 ⟨ctx, h, st, k, H, S, hbase, s1, s7, s8, hk, hj, hy⟩
  have hval8 : a.tmps.getD 8 Go.undef = .int .i64 k := by
    have := S.val 8
    rw [s8] at this
    generalize a.tmps.getD 8 Go.undef = v at this
    cases this; rfl
  -- the test
  refine wpIn_seq (WP.in_ hext0 hlate0 0 rfl rfl (R := fun x st' h' => x = .normal ∧ st' 1 = .pp [I n] ∧ st' 7 = I N ∧ st' 8 = I (k : Nat) ∧ st' 9 = .bool (decide (k < N))) ?_ H S ?_)
  · by_cases hlt : k < N
    · simp (disch := first | (simp only [go_sem, gb0, eq_self]; done) | omega | (simp only [gl1, gl2]; omega)) only [go_sem, ↓reduceIte, Nat.reduceEqDiff, Nat.reduceAdd, Nat.reduceMul, Nat.reduceSub, Int.reduceToNat, Nat.reduceBEq, s1, s7, s8, hlt, decide_true]
    · simp (disch := first | (simp only [go_sem, gb0, eq_self]; done) | omega | (simp only [gl1, gl2]; omega)) only [go_sem, ↓reduceIte, Nat.reduceEqDiff, Nat.reduceAdd, Nat.reduceMul, Nat.reduceSub, Int.reduceToNat, Nat.reduceBEq, s1, s7, s8, hlt, decide_false]
  rintro x st h3 ⟨rfl, s1, s7, s8, s9⟩ w3 c3 a3 E3 H3 S3 F3
  refine wpIn_seq ?_
  by_cases hlt : k < N
  case neg =>
    have hkN : k = N := by omega
    rw [show decide (k < N) = false by simp [hlt]] at s9
    refine WP.in_ hext0 hlate0 0 rfl rfl (R := fun x st h => x = .exit 0) ?_ H3 S3 ?_
    · simp (disch := first | (simp only [go_sem, gb0, eq_self]; done) | omega | (simp only [gl1, gl2]; omega)) only [go_sem, ↓reduceIte, Nat.reduceEqDiff, Nat.reduceAdd, Nat.reduceMul, Nat.reduceSub, Int.reduceToNat, Nat.reduceBEq, s9]
    rintro x st' h' rfl w4 c4 a4 E4 H4 S4 F4
    refine ⟨S4.defers, _, results_none rfl _ _ _, ⟨_, rfl⟩, .inl ⟨_, rfl, ?_⟩⟩
    have hb1 := (E3.trans E4).below
    rw [hbase] at hb1
    rw [← hkN]
    exact hJ _ _ _ hj hb1
  rw [show decide (k < N) = true by simp [hlt]] at s9
  refine WP.in_ hext0 hlate0 0 rfl rfl (R := fun x st' h' => x = .normal ∧ st' 1 = .pp [I n] ∧ st' 7 = I N ∧ st' 8 = I (k : Nat)) ?_ H3 S3 ?_
  · simp (disch := first | (simp only [go_sem, gb0, eq_self]; done) | omega | (simp only [gl1, gl2]; omega)) only [go_sem, ↓reduceIte, Nat.reduceEqDiff, Nat.reduceAdd, Nat.reduceMul, Nat.reduceSub, Int.reduceToNat, Nat.reduceBEq, s1, s7, s8, s9]
  rintro x st h4 ⟨rfl, s1, s7, s8⟩ w4 c4 a4 E4 H4 S4 F4
  -- the body
  have hbase4 : c4.base = W.heap.size := ((E3.trans E4).base).trans hbase
  have hb4 := (E3.trans E4).below
  rw [hbase] at hb4
  have hj4 : J (List.range k) w4 := hJ _ _ _ hj hb4
  have hy4 : a4.tmps[0]? = some (.func (.yield l) #[] #[]) := Eq.trans F4 (Eq.trans F3 hy)
  clear H S H3 S3 F3 F4 E3 E4 hb4 hj hy
  refine wpIn_seq (wpIn_block ?_)
  refine wpIn_seq (WP.in_ hext0 hlate0 0 rfl rfl (R := fun x st' h' => x = .normal ∧ st' 1 = .pp [I n] ∧ st' 3 = I k ∧ st' 7 = I N ∧ st' 8 = I k) ?_ H4 S4 ?_)
  · simp (disch := first | (simp only [go_sem, gb0, eq_self]; done) | omega | (simp only [gl1, gl2]; omega)) only [go_sem, ↓reduceIte, Nat.reduceEqDiff, Nat.reduceAdd, Nat.reduceMul, Nat.reduceSub, Int.reduceToNat, Nat.reduceBEq, s1, s7, s8]
  rintro x st h5 ⟨rfl, s1, s3, s7, s8⟩ w5 c5 a5 E5 H5 S5 F5
  refine wpIn_seq (WP.in_ hext0 hlate0 0 rfl rfl (R := fun x st' h' => x = .normal ∧ st' 1 = .pp [I n] ∧ st' 3 = I k ∧ st' 4 = .ptr h5.nx 0 ∧ st' 7 = I N ∧ st' 8 = I k ∧ h5.nx < h'.nx ∧ h'.bl h5.nx = some (.cells false false ((ruleN n 0 k).flatMap (e1 .bool)))) ?_ H5 S5 ?_)
  · simp (disch := first | (simp only [go_sem, gb0, eq_self]; done) | omega | (simp only [gl1, gl2]; omega)) only [go_sem, ↓reduceIte, Nat.reduceEqDiff, Nat.reduceAdd, Nat.reduceMul, Nat.reduceSub, Int.reduceToNat, Nat.reduceBEq, s1, s3, s7, s8]
    exact ⟨Nat.lt_succ_self _, rfl⟩
  rintro x st h6 ⟨rfl, s1, s3, s4, s7, s8, hid, hbl⟩ w6 c6 a6 E6 H6 S6 F6
  generalize h5.nx = id at *
  refine wpIn_seq (WP.in_ hext0 hlate0 0 rfl rfl (R := fun x st' h' => x = .normal ∧ st' 4 = .ptr id 0 ∧ st' 1 = .pp [I n] ∧ st' 7 = I N ∧ st' 8 = I k ∧ h'.bl id = some (.cells false false ((ruleN n n k).flatMap (e1 .bool)))) ?_ H6 S6 ?_)
  · simp (disch := first | (simp only [go_sem, gb0, eq_self]; done) | omega | (simp only [gl1, gl2]; omega)) only [go_sem, ↓reduceIte, Nat.reduceEqDiff, Nat.reduceAdd, Nat.reduceMul, Nat.reduceSub, Int.reduceToNat, Nat.reduceBEq, s1, s3, s4, s7, s8]
    refine WP_for 12 n (fun i st h => st 1 = .pp [I n] ∧ st 3 = I k ∧ st 4 = .ptr id 0 ∧ st 7 = I N ∧ st 8 = I k ∧ st 11 = I n ∧ id < h.nx ∧ h.bl id = some (.cells false false ((ruleN n i k).flatMap (e1 .bool)))) (by simp (disch := first | (simp only [go_sem, gb0, eq_self]; done) | omega | (simp only [gl1, gl2]; omega)) only [go_sem, ↓reduceIte, Nat.reduceEqDiff, Nat.reduceAdd, Nat.reduceMul, Nat.reduceSub, Int.reduceToNat, Nat.reduceBEq]) ⟨by simp (disch := first | (simp only [go_sem, gb0, eq_self]; done) | omega | (simp only [gl1, gl2]; omega)) only [go_sem, ↓reduceIte, Nat.reduceEqDiff, Nat.reduceAdd, Nat.reduceMul, Nat.reduceSub, Int.reduceToNat, Nat.reduceBEq, s1, s3, s4, s7, s8], by simp (disch := first | (simp only [go_sem, gb0, eq_self]; done) | omega | (simp only [gl1, gl2]; omega)) only [go_sem, ↓reduceIte, Nat.reduceEqDiff, Nat.reduceAdd, Nat.reduceMul, Nat.reduceSub, Int.reduceToNat, Nat.reduceBEq, s1, s3, s4, s7, s8], by simp (disch := first | (simp only [go_sem, gb0, eq_self]; done) | omega | (simp only [gl1, gl2]; omega)) only [go_sem, ↓reduceIte, Nat.reduceEqDiff, Nat.reduceAdd, Nat.reduceMul, Nat.reduceSub, Int.reduceToNat, Nat.reduceBEq, s1, s3, s4, s7, s8], by simp (disch := first | (simp only [go_sem, gb0, eq_self]; done) | omega | (simp only [gl1, gl2]; omega)) only [go_sem, ↓reduceIte, Nat.reduceEqDiff, Nat.reduceAdd, Nat.reduceMul, Nat.reduceSub, Int.reduceToNat, Nat.reduceBEq, s1, s3, s4, s7, s8], by simp (disch := first | (simp only [go_sem, gb0, eq_self]; done) | omega | (simp only [gl1, gl2]; omega)) only [go_sem, ↓reduceIte, Nat.reduceEqDiff, Nat.reduceAdd, Nat.reduceMul, Nat.reduceSub, Int.reduceToNat, Nat.reduceBEq, s1, s3, s4, s7, s8], by simp (disch := first | (simp only [go_sem, gb0, eq_self]; done) | omega | (simp only [gl1, gl2]; omega)) only [go_sem, ↓reduceIte, Nat.reduceEqDiff, Nat.reduceAdd, Nat.reduceMul, Nat.reduceSub, Int.reduceToNat, Nat.reduceBEq, s1, s3, s4, s7, s8], hid, hbl⟩ ?_
    rintro i st h hi s12 ⟨s1, s3, s4, s7, s8, s11, hnx, b0⟩
    by_cases hlt : i < n
    case neg =>
      have hin : i = n := by omega
      subst hin
      simp (disch := first | (simp only [go_sem, gb0, eq_self]; done) | omega | (simp only [gl1, gl2]; omega)) only [go_sem, ↓reduceIte, Nat.reduceEqDiff, Nat.reduceAdd, Nat.reduceMul, Nat.reduceSub, Int.reduceToNat, Nat.reduceBEq, s1, s3, s4, s7, s8, s11, s12, hlt]
      exact b0
    have hsh := shr_nat (P := Try.prog) 3 k i (by omega)
    have hl6 : i < (ruleN n i k).length := by rw [ruleN_len]; omega
    have hset : (ruleN n i k).set i (k.testBit i) = ruleN n (i + 1) k := fillR_set (by omega)
    have h6 : (i : Int) < 6 := by omega
    have hsl : k >>> i < 9223372036854775808 := by rw [Nat.shiftRight_eq_div_pow]; exact Nat.lt_of_le_of_lt (Nat.div_le_self _ _) (by omega)
    have hand : binA Try.prog .and 3 (I ((k >>> i : Nat) : Int)) (I 1) = some (I ((if k.testBit i then 1 else 0 : Nat) : Int)) := by
      rw [show ((1 : Int)) = ((1 : Nat) : Int) from rfl, binA_and (P := Try.prog) 3 (k >>> i) 1 hsl (by omega), bit_test]
    cases htb : k.testBit i with
    | true =>
      rw [htb] at hand hset
      have e1' : ((if true = true then 1 else 0 : Nat) : Int) = 1 := rfl
      rw [e1'] at hand
      simp (disch := first | (simp only [go_sem, gb0, eq_self]; done) | omega | (simp only [gl1, gl2]; omega)) only [go_sem, ↓reduceIte, Nat.reduceEqDiff, Nat.reduceAdd, Nat.reduceMul, Nat.reduceSub, Int.reduceToNat, Nat.reduceBEq, s1, s3, s4, s7, s8, s11, s12, hlt, b0, hsh, hl6, hand, h6, hset, eq_self, decide_true]
      rw [ForK_normal]
      exact ⟨hlt, by simp (disch := first | (simp only [go_sem, gb0, eq_self]; done) | omega | (simp only [gl1, gl2]; omega)) only [go_sem, ↓reduceIte, Nat.reduceEqDiff, Nat.reduceAdd, Nat.reduceMul, Nat.reduceSub, Int.reduceToNat, Nat.reduceBEq, s12], by simp (disch := first | (simp only [go_sem, gb0, eq_self]; done) | omega | (simp only [gl1, gl2]; omega)) only [go_sem, ↓reduceIte, Nat.reduceEqDiff, Nat.reduceAdd, Nat.reduceMul, Nat.reduceSub, Int.reduceToNat, Nat.reduceBEq, s1], by simp (disch := first | (simp only [go_sem, gb0, eq_self]; done) | omega | (simp only [gl1, gl2]; omega)) only [go_sem, ↓reduceIte, Nat.reduceEqDiff, Nat.reduceAdd, Nat.reduceMul, Nat.reduceSub, Int.reduceToNat, Nat.reduceBEq, s3], by simp (disch := first | (simp only [go_sem, gb0, eq_self]; done) | omega | (simp only [gl1, gl2]; omega)) only [go_sem, ↓reduceIte, Nat.reduceEqDiff, Nat.reduceAdd, Nat.reduceMul, Nat.reduceSub, Int.reduceToNat, Nat.reduceBEq, s4], by simp (disch := first | (simp only [go_sem, gb0, eq_self]; done) | omega | (simp only [gl1, gl2]; omega)) only [go_sem, ↓reduceIte, Nat.reduceEqDiff, Nat.reduceAdd, Nat.reduceMul, Nat.reduceSub, Int.reduceToNat, Nat.reduceBEq, s7], by simp (disch := first | (simp only [go_sem, gb0, eq_self]; done) | omega | (simp only [gl1, gl2]; omega)) only [go_sem, ↓reduceIte, Nat.reduceEqDiff, Nat.reduceAdd, Nat.reduceMul, Nat.reduceSub, Int.reduceToNat, Nat.reduceBEq, s8], by simp (disch := first | (simp only [go_sem, gb0, eq_self]; done) | omega | (simp only [gl1, gl2]; omega)) only [go_sem, ↓reduceIte, Nat.reduceEqDiff, Nat.reduceAdd, Nat.reduceMul, Nat.reduceSub, Int.reduceToNat, Nat.reduceBEq, s11], hnx, by simp (disch := first | (simp only [go_sem, gb0, eq_self]; done) | omega | (simp only [gl1, gl2]; omega)) only [go_sem, ↓reduceIte, Nat.reduceEqDiff, Nat.reduceAdd, Nat.reduceMul, Nat.reduceSub, Int.reduceToNat, Nat.reduceBEq]⟩
    | false =>
      rw [htb] at hand hset
      have e1' : ((if false = true then 1 else 0 : Nat) : Int) = 0 := rfl
      have e01 : decide ((0 : Int) = 1) = false := by decide
      rw [e1'] at hand
      simp (disch := first | (simp only [go_sem, gb0, eq_self]; done) | omega | (simp only [gl1, gl2]; omega)) only [go_sem, ↓reduceIte, Nat.reduceEqDiff, Nat.reduceAdd, Nat.reduceMul, Nat.reduceSub, Int.reduceToNat, Nat.reduceBEq, s1, s3, s4, s7, s8, s11, s12, hlt, b0, hsh, hl6, hand, h6, hset, e01]
      rw [ForK_normal]
      exact ⟨hlt, by simp (disch := first | (simp only [go_sem, gb0, eq_self]; done) | omega | (simp only [gl1, gl2]; omega)) only [go_sem, ↓reduceIte, Nat.reduceEqDiff, Nat.reduceAdd, Nat.reduceMul, Nat.reduceSub, Int.reduceToNat, Nat.reduceBEq, s12], by simp (disch := first | (simp only [go_sem, gb0, eq_self]; done) | omega | (simp only [gl1, gl2]; omega)) only [go_sem, ↓reduceIte, Nat.reduceEqDiff, Nat.reduceAdd, Nat.reduceMul, Nat.reduceSub, Int.reduceToNat, Nat.reduceBEq, s1], by simp (disch := first | (simp only [go_sem, gb0, eq_self]; done) | omega | (simp only [gl1, gl2]; omega)) only [go_sem, ↓reduceIte, Nat.reduceEqDiff, Nat.reduceAdd, Nat.reduceMul, Nat.reduceSub, Int.reduceToNat, Nat.reduceBEq, s3], by simp (disch := first | (simp only [go_sem, gb0, eq_self]; done) | omega | (simp only [gl1, gl2]; omega)) only [go_sem, ↓reduceIte, Nat.reduceEqDiff, Nat.reduceAdd, Nat.reduceMul, Nat.reduceSub, Int.reduceToNat, Nat.reduceBEq, s4], by simp (disch := first | (simp only [go_sem, gb0, eq_self]; done) | omega | (simp only [gl1, gl2]; omega)) only [go_sem, ↓reduceIte, Nat.reduceEqDiff, Nat.reduceAdd, Nat.reduceMul, Nat.reduceSub, Int.reduceToNat, Nat.reduceBEq, s7], by simp (disch := first | (simp only [go_sem, gb0, eq_self]; done) | omega | (simp only [gl1, gl2]; omega)) only [go_sem, ↓reduceIte, Nat.reduceEqDiff, Nat.reduceAdd, Nat.reduceMul, Nat.reduceSub, Int.reduceToNat, Nat.reduceBEq, s8], by simp (disch := first | (simp only [go_sem, gb0, eq_self]; done) | omega | (simp only [gl1, gl2]; omega)) only [go_sem, ↓reduceIte, Nat.reduceEqDiff, Nat.reduceAdd, Nat.reduceMul, Nat.reduceSub, Int.reduceToNat, Nat.reduceBEq, s11], hnx, by simp (disch := first | (simp only [go_sem, gb0, eq_self]; done) | omega | (simp only [gl1, gl2]; omega)) only [go_sem, ↓reduceIte, Nat.reduceEqDiff, Nat.reduceAdd, Nat.reduceMul, Nat.reduceSub, Int.reduceToNat, Nat.reduceBEq]⟩
  rintro x st h7 ⟨rfl, s4, s1, s7, s8, hbl⟩ w7 c7 a7 E7 H7 S7 F7
  have E47 := (((E5.trans E6).trans E7)).below
  rw [hbase4] at E47
  have hj7 : J (List.range k) w7 := hJ _ _ _ hj4 E47
  have hy7 : a7.tmps[0]? = some (.func (.yield l) #[] #[]) := Eq.trans F7 (Eq.trans F6 (Eq.trans F5 hy4))
  have hb7 : c7.base = W.heap.size := (((E5.trans E6).trans E7).base).trans hbase4
  clear H4 S4 H5 S5 H6 S6 F5 F6 F7 E5 E6 E7 E47 hj4 hy4
  refine wpIn_seq (wpIn_region ?_)
  show wpOpsIn (rF none) m Try.prog _ _ [0, 1, 2, 3] a7 w7
  have want : ∀ (o : Oper) (f : Nat → Option Bool), o.guard = none → Region.wanted o f = true := fun o f h => by simp [Region.wanted, h]
  simp only [wpOpsIn, List.getElem?_toArray, List.getElem?_cons_zero, List.getElem?_cons_succ, want, if_true]
  have e0 : a7.eval (.tmp 0) = .func (.yield l) #[] #[] := by
    show a7.tmps.getD 0 Go.undef = _
    rw [Array.getD_eq_getD_getElem?, hy7]; rfl
  have hmv : (execOp a7.eval ⟨some 23, .move (.tmp 0), 101, "stop.go:68", #[], none⟩).run Try.prog w7 = .ok (.value (.func (.yield l) #[] #[])) w7 := by rw [← e0]; rfl
  refine next_valueIn (fun c h => by cases h) hmv ?_
  have hput : ∀ (a : Act) (t : Nat) (v : Value), a.tmps.size = 28 → t < 28 → (a.put (some t) v).tmps[t]? = some v := fun a t v h1 h2 => by simp [Act.put, h1, h2]
  have y23 := hput a7 23 (.func (.yield l) #[] #[]) S7.size (by decide)
  have S8 := S7.put (d := some 23) (fun t ht => by cases ht; decide) (VR.undef (w := w7) (c := c7) (.func (.yield l) #[] #[]))
  have hload : StepW Try.prog cfg #[] none (.load 82 (.tmp 4)) (updO st (some 23) .undef) h7 (fun v g => v = uR n k ∧ g = h7) := by
    have hld := loadC_agg (.array 6 4) 6 rfl ((ruleN n n k).flatMap (e1 .bool)) 0 (by rw [flat_len, ruleN_len]; exact Nat.le_refl _)
    have htk : (((ruleN n n k).flatMap (e1 AV.bool)).drop 0).take 6 = (ruleN n n k).flatMap (e1 AV.bool) := by
      rw [List.drop_zero, List.take_of_length_le (by rw [flat_len, ruleN_len]; exact Nat.le_refl _)]
    rw [htk] at hld
    simp (disch := first | (simp only [go_sem, gb0, eq_self]; done) | omega | (simp only [gl1, gl2]; omega)) only [go_sem, ↓reduceIte, Nat.reduceEqDiff, Nat.reduceAdd, Nat.reduceMul, Nat.reduceSub, Int.reduceToNat, Nat.reduceBEq, s4, hbl, hld]
    exact rfl
  obtain ⟨kk, v, g, e, rfl, hg⟩ := hload
  rw [hg] at e
  have hu : opRead Try.prog (.load 82 (.tmp 4)) (ev (updO st (some 23) .undef)) h7 none = some (uR n k) := by
    unfold stepK at e
    have hp : opPure Try.prog (.load 82 (.tmp 4)) (ev (updO st (some 23) .undef)) = none := rfl
    simp only [hp] at e
    cases hq : opRead Try.prog (.load 82 (.tmp 4)) (ev (updO st (some 23) .undef)) h7 none with
    | some u => rw [hq] at e; simp only [Option.some.injEq, Prod.mk.injEq, and_true] at e; rw [e]
    | none => rw [hq] at e; simp [opNew, opWrite] at e
  obtain ⟨v8, hr8, V8⟩ := opRead_ok (P := Try.prog) (o := ⟨some 24, .load 82 (.tmp 4), 82, "stop.go:68", #[], none⟩) H7 S8.ev hu
  refine next_valueIn (fun c h => by cases h) hr8 ?_
  have S8' := S8.put (d := some 24) (fun t ht => by cases ht; decide) V8
  have y23' : ((a7.put (some 23) (.func (.yield l) #[] #[])).put (some 24) v8).tmps[23]? = some (.func (.yield l) #[] #[]) := Eq.trans (Frz.put (by decide) _) y23
  have y0' : ((a7.put (some 23) (.func (.yield l) #[] #[])).put (some 24) v8).tmps[0]? = some (.func (.yield l) #[] #[]) := Eq.trans (Frz.put (by decide) _) (Eq.trans (Frz.put (by decide) _) hy7)
  generalize ((a7.put (some 23) (.func (.yield l) #[] #[])).put (some 24) v8) = a8 at S8' y23' y0' ⊢
  have e24 : a8.eval (.tmp 24) = encR n k := uR_inv (w := w7) (c := c7) (by have := S8'.val 24; exact this)
  have e23 : a8.eval (.tmp 23) = .func (.yield l) #[] #[] := by
    show a8.tmps.getD 23 Go.undef = _
    rw [Array.getD_eq_getD_getElem?, y23']; rfl
  obtain ⟨fn, tmps, assign, body, hyr, hR⟩ := hY (List.range k) k w7 hj7 (by rw [List.length_range]; exact hlt)
  have hcall := call_yield (P := Try.prog) hyr (ρ := a8.eval) (o := ⟨some 25, .call ⟨.value (.tmp 23), #[.tmp 24], #[82]⟩, 4, "stop.go:68", #[⟨0, .data⟩, ⟨1, .data⟩], none⟩) rfl e23 (by simp [e24])
  refine ⟨fun _ _ => trivial, ?_⟩
  rw [Oper.semAt_eq _ _ _ (fun c h => by cases h), hcall, Oper.uponIn_round]
  refine ⟨fun h => (by cases h), roundIn_any (hR.mono ?_)⟩
  rintro e W9 (⟨rfl, hj9, hB9⟩ | ⟨rfl, hjx⟩)
  · have E9 := Ext.grow H7 hB9 c7.fz (fun _ h => h) (fun _ h => .inl h)
    have H9 := H7.grow hB9 c7.fz (fun _ h => h) (fun _ h => .inl h)
    have S9 := (S8'.mono E9).put (d := some 25) (fun t ht => by cases ht; decide) (VR.bool (w := W9) true)
    have y25 := hput a8 25 (.bool true) S8'.size (by decide)
    have e25 : (a8.put (some 25) (.bool true)).eval (.tmp 25) = .bool true := by
      show (a8.put (some 25) (.bool true)).tmps.getD 25 Go.undef = _
      rw [Array.getD_eq_getD_getElem?, y25]; rfl
    refine next_valueIn (fun c h => by cases h) (x := .bool false) (w' := W9) (not_run e25) ?_
    have S10 := S9.put (d := some 26) (fun t ht => by cases ht; decide) (VR.bool (w := W9) false)
    have e26 := (S10.ev (.tmp 26)).bool_inv
    refine wpIn_cond_false e26 (wpIn_skip ?_)
    have t1 : (updO (updO (updO (updO st (some 23) .undef) (some 24) (uR n k)) (some 25) (.bool true)) (some 26) (.bool false)) 1 = .pp [I n] := s1
    have t7 : (updO (updO (updO (updO st (some 23) .undef) (some 24) (uR n k)) (some 25) (.bool true)) (some 26) (.bool false)) 7 = I N := s7
    have t8 : (updO (updO (updO (updO st (some 23) .undef) (some 24) (uR n k)) (some 25) (.bool true)) (some 26) (.bool false)) 8 = I k := s8
    generalize (updO (updO (updO (updO st (some 23) .undef) (some 24) (uR n k)) (some 25) (.bool true)) (some 26) (.bool false)) = st9 at S10 t1 t7 t8
    generalize hae : (a8.put (some 25) (.bool true)).put (some 26) (.bool false) = a9 at S10 ⊢
    have y0 : a9.tmps[0]? = some (.func (.yield l) #[] #[]) := by
      rw [← hae]
      exact Eq.trans (Frz.put (by decide) _) (Eq.trans (Frz.put (by decide) _) y0')
    refine WP.in_ hext0 hlate0 0 rfl rfl (R := fun x st' h' => x = .normal ∧ st' 1 = .pp [I n] ∧ st' 7 = I N ∧ st' 8 = I ((k + 1 : Nat) : Int)) ?_ H9 S10 ?_
    · simp (disch := first | (simp only [go_sem, gb0, eq_self]; done) | omega | (simp only [gl1, gl2]; omega)) only [go_sem, ↓reduceIte, Nat.reduceEqDiff, Nat.reduceAdd, Nat.reduceMul, Nat.reduceSub, Int.reduceToNat, Nat.reduceBEq, t1, t7, t8]
      rfl
    rintro x st h9 ⟨rfl, s1, s7, s8⟩ w10 c10 a10 E10 H10 S11 F10
    have hval : a10.tmps.getD 8 Go.undef = .int .i64 ((k + 1 : Nat) : Int) := by
      have := S11.val 8
      rw [s8] at this
      generalize a10.tmps.getD 8 Go.undef = v at this
      cases this; rfl
    have hb10 : c10.base = W.heap.size := E10.base.trans hb7
    have hj10 : J (List.range (k + 1)) w10 := by
      rw [List.range_succ]
      have := E10.below
      rw [show ({ c7 with fz := c7.fz } : Ctx).base = W.heap.size from hb7] at this
      exact hJ _ _ _ hj9 this
    refine ⟨⟨c10, h9, st, k + 1, H10, S11, hb10, s1, s7, s8, by omega, hj10, Eq.trans F10 y0⟩, ?_⟩
    show N - (intOf (a10.tmps.getD 8 Go.undef)).toNat < N - (intOf (a.tmps.getD 8 Go.undef)).toNat
    rw [hval, hval8]
    simp only [intOf]
    omega
  · have y25 := hput a8 25 (.bool false) S8'.size (by decide)
    have e25 : (a8.put (some 25) (.bool false)).eval (.tmp 25) = .bool false := by
      show (a8.put (some 25) (.bool false)).tmps.getD 25 Go.undef = _
      rw [Array.getD_eq_getD_getElem?, y25]; rfl
    refine next_valueIn (fun c h => by cases h) (x := .bool true) (w' := W9) (not_run e25) ?_
    have hs9 : (a8.put (some 25) (.bool false)).tmps.size = 28 := by simp [Act.put, S8'.size]
    have y26 := hput (a8.put (some 25) (.bool false)) 26 (.bool true) hs9 (by decide)
    refine wpIn_cond_true (c := .tmp 26) (by
      show ((a8.put (some 25) (.bool false)).put (some 26) (.bool true)).tmps.getD 26 Go.undef = _
      rw [Array.getD_eq_getD_getElem?, y26]; rfl) (wpIn_ret ?_)
    refine ⟨S8'.defers, _, results_none rfl _ _ _, ⟨_, rfl⟩, .inr ⟨List.range k ++ [k], ?_, hjx⟩⟩
    rw [← List.range_succ, hN]
    have : List.range (2 ^ n) = List.range (k + 1) ++ (List.range (2 ^ n - (k + 1))).map (fun i => k + 1 + i) := by
      rw [← List.range_add, Nat.add_sub_cancel' (by omega)]
    rw [this]
    exact List.prefix_append _ _
end Go.Proofs.Ytgamcclfdkpcgaa

set_option linter.unusedVariables false
set_option linter.unusedSimpArgs false
set_option maxRecDepth 10000
namespace Go.Proofs.Ytgamcclfdkpcgaa
open Go Go.Am Go.RowKit

variable {h h' : Hp} {K : AV → Hp → Prop}

theorem f68_con (n : Int) : Con Try.prog cfg 68 [I n] (.fn 81 [.pp [I n]]) := by
  refine Con_intro Try.func68 rfl ok68 (Nat.le_of_ble_eq_true rfl) rfl ?_
  simp only [Try.f68, Option.getD_some, initSt1]
  simp (disch := first | (simp only [go_sem, gb0, eq_self]; done) | omega | (simp only [gl1, gl2]; omega)) only [go_sem, ↓reduceIte, Nat.reduceEqDiff, Nat.reduceAdd, Nat.reduceMul, Nat.reduceSub, Int.reduceToNat, Nat.reduceBEq]
  have hb : (Hp.empty.alloc (.cells false false [I n])).bl 0 = some (.cells false false [I n]) := rfl
  have hs := sealA_fn1 (h := Hp.empty.alloc (.cells false false [I n])) 81 0 false false (I n) rfl hb
  show ((exportV Try.prog false false 94 (Hp.empty.alloc (.cells false false [I n])) [] (.fn 81 [.ptr 0 0])).bind fun r => if isTup r.1 then none else some r.1) = _
  rw [exportV_plain, hs]; rfl

/-- What 'best' needs to know of a chain with n states. -/
structure Ways (c : AV) (n : Nat) (snd bst : Nat → Bool) (eq : Nat → AV) (val : Nat → List (Int × Int)) : Prop where
  sound : ∀ x, Con Try.prog cfg 54 [c, uR n x] (.bool (snd x))
  eqs : ∀ x, snd x = true → Con Try.prog cfg 56 [c, uR n x] (eq x)
  pureE : ∀ x, snd x = true → ∃ cs, eq x = .agg cs ∧ AV.pureL cs = true
  sol : ∀ x, snd x = true → Con Try.prog cfg 55 [eq x, I n] (LP (val x))
  best : ∀ x, snd x = true → Con Try.prog cfg 69 [c, LP (val x)] (.bool (bst x))
/-- The first of some numbers that is taken. -/
def firstOf (snd bst : Nat → Bool) (val : Nat → List (Int × Int)) (xs : List Nat) : List (Int × Int) := match xs.find? fun x => snd x && bst x with | some x => val x | none => []

theorem fn_inv {g : FuncId} {n : Int} {w : World} {c : Ctx} {v : Value} (h : VR w c (.fn g [.pp [I n]]) v) : ∃ ad, v = .func (.func g) #[] #[.pointer (some ad)] ∧ w.cell? ad = some (.int .i64 n) ∧ ad.block < w.heap.size := by
  generalize hq : ([.pp [I n]] : List AV) = q at h
  cases h with
  | fn _ _ vs hl hv =>
    subst hq
    have h0 := hv 0 _ rfl
    have hs : vs.size = 1 := hl.symm
    have hvs : vs = #[vs.getD 0 Go.undef] := by
      refine Array.ext (by simp [hs]) fun j h1 h2 => ?_
      have : j = 0 := by omega
      subst this
      show vs[0] = vs.getD 0 Go.undef
      rw [Array.getD_eq_getD_getElem?, Array.getElem?_eq_getElem h1]; rfl
    generalize vs.getD 0 Go.undef = y at h0 hvs
    subst hvs
    generalize hr : ([I n] : List AV) = r at h0
    cases h0 with
    | pp _ ad cv hfz hcell hc hv2 =>
      subst hr
      have h1 := hc 0 (Nat.lt_succ_self 0)
      have h2 := hv2 0 _ rfl
      generalize cv 0 = z at h1 h2
      cases h2
      have e0 : ad.add 0 = ad := by unfold Addr.add; simp
      rw [e0] at h1
      refine ⟨ad, rfl, h1, ?_⟩
      unfold World.cell? at h1
      cases hb : w.heap[ad.block]? with
      | none => rw [hb] at h1; cases h1
      | some o => exact (Array.getElem?_eq_some_iff.1 hb).1
theorem res_cell {h : Hp} {st : St} {v : AV} (s2 : st 2 = .ptr 1 0) (hb : h.bl 1 = some (.cells false false [v])) : resR Try.prog h st Try.f49.results.toList = some v := by
  have e : Try.f49.results.toList = [.cell 2 28] := rfl
  have hr : rd h none 1 = some [v] := by simp [rd, hb, lims_none]
  rw [e]
  simp [resR, resL, resA, s2, hr, loadA_B, und28, isz28, loadB, aggD]
theorem enters81 (args : Array Value) (w : World) : (callFunc 81 args).run Try.prog w = .ok (.enter 81 args) w := Go.Proofs.enters_of Try.func81 (by kernel_rfl) rfl args w
theorem best_pure (nx : List (List Int)) (pay cost : List Int) (hn : nx.length ≤ 6) {snd bst : Nat → Bool} {eq : Nat → AV} {val : Nat → List (Int × Int)} (Y : Ways (.agg [LLI nx, LI pay, LI cost]) nx.length snd bst eq val) :
    PureOk Try.prog 49 [.agg [LLI nx, LI pay, LI cost]] (LP (firstOf snd bst val (List.range (2 ^ nx.length)))) := by
  refine ⟨⟨_, Try.func49, rfl, by rfl⟩, fun w fz vs hf ha R hR => ?_⟩
  have H0 := ctx_nil (w := w) hf
  obtain ⟨c0, hc0⟩ : ∃ c : Ctx, c = { base := w.heap.size, nx := 0, loc := fun _ => .dead, fz := fz } := ⟨_, rfl⟩
  rw [← hc0] at H0
  have ha' : ArgsR w c0 [.agg [LLI nx, LI pay, LI cost]] vs := by
    refine ⟨ha.1, fun j u hu => ?_⟩
    rw [hc0]; exact VR.base_any (ha.2 j u hu)
  have S0 := args_start ha' (n := 25) (Nat.le_of_ble_eq_true rfl)
  refine (callsIn_wide (n := 5)).1 ?_
  show CallsIn (rF none) 5 Try.prog 49 vs w R
  refine callsIn_of_wp_marks (fn := Try.f49) (c := Try.f49.body.getD .skip) Try.func49 rfl trivial ?_
  have hbase0 : c0.base = w.heap.size := by rw [hc0]
  have hfz0 : c0.fz = fz := by rw [hc0]
  have hntm : Try.f49.ntmps = 25 := rfl
  rw [hntm]
  obtain ⟨a0, ha0⟩ : ∃ a0 : Act, { tmps := vs ++ Array.replicate (25 - vs.size) Go.undef, defers := [] } = a0 := ⟨_, rfl⟩
  rw [ha0] at S0 ⊢
  have hal : ∀ g : Hp, allocB g (some (.agg [LLI nx, LI pay, LI cost])) = some (.ptr g.nx 0, g.alloc (.cells false false [LLI nx, LI pay, LI cost])) := fun g => allocB_agg _ rfl
  generalize hQ : bodyPostM (rF none) 5 Try.prog Try.f49 R = Q
  simp only [Try.f49, Option.getD_some]
  refine wpIn_seq (WP.in_ hext0 hlate0 25 rfl rfl (R := fun x st h => x = .normal ∧ st 1 = .ptr 0 0 ∧ st 2 = .ptr 1 0 ∧ h = (Hp.empty.alloc (.cells false false [LLI nx, LI pay, LI cost])).alloc (.cells false false [.nil])) ?_ H0 S0 ?_)
  · simp only [initSt1]
    simp (disch := first | (simp only [go_sem, gb0, eq_self]; done) | omega | (simp only [gl1, gl2]; omega)) only [go_sem, ↓reduceIte, Nat.reduceEqDiff, Nat.reduceAdd, Nat.reduceMul, Nat.reduceSub, Int.reduceToNat, Nat.reduceBEq, hal]
  rintro x st h ⟨rfl, s1, s2, hh⟩ w1 c1 a1 E1 H1 S1 F1
  obtain ⟨n, hnn⟩ : ∃ n, n = nx.length := ⟨_, rfl⟩
  refine wpIn_seq (WP.in_ hext0 hlate0 25 rfl rfl (R := fun x st h => x = .normal ∧ st 1 = .ptr 0 0 ∧ st 2 = .ptr 1 0 ∧ st 3 = .ptr 2 0 ∧ h.nx = 3 ∧ h.bl 0 = some (.cells false false [LLI nx, LI pay, LI cost]) ∧ h.bl 1 = some (.cells false false [.nil]) ∧ h.bl 2 = some (.cells false false [I n])) ?_ H1 S1 ?_)
  · rw [hh, hnn]
    simp (disch := first | (simp only [go_sem, gb0, eq_self]; done) | omega | (simp only [gl1, gl2]; omega)) only [go_sem, ↓reduceIte, Nat.reduceEqDiff, Nat.reduceAdd, Nat.reduceMul, Nat.reduceSub, Int.reduceToNat, Nat.reduceBEq, s1, s2]
  rintro x st h2 ⟨rfl, s1, s2, s3, hnx, b0, b1, b2⟩ w2 c2 a2 E2 H2 S2 F2
  have k68 := fun h h' K => ConW_any (h := h) (h' := h') (K := K) (f68_con n) rfl
  have hi68 : ∀ h : Hp, importR h (.fn 81 [.pp [I n]]) = (.fn 81 [.pp [I n]], h) := fun _ => rfl
  refine wpIn_seq (wpIn_seq (WP.in_ hext0 hlate0 25 rfl rfl (R := fun x st h => x = .normal ∧ st 1 = .ptr 0 0 ∧ st 2 = .ptr 1 0 ∧ st 3 = .ptr 2 0 ∧ st 10 = .fn 81 [.pp [I n]] ∧ h = h2) ?_ H2 S2 ?_))
  · simp (disch := first | (simp only [go_sem, gb0, eq_self]; done) | omega | (simp only [gl1, gl2]; omega)) only [go_sem, ↓reduceIte, Nat.reduceEqDiff, Nat.reduceAdd, Nat.reduceMul, Nat.reduceSub, Int.reduceToNat, Nat.reduceBEq, s1, s2, s3, b2, k68, hi68]
  rintro x st h3 ⟨rfl, s1, s2, s3, s10, rfl⟩ w3 c3 a3 E3 H3 S3 F3
  obtain ⟨ad, e10, hcell, hadb⟩ := fn_inv (by have := S3.ev (.tmp 10); rwa [show ev st (.tmp 10) = st 10 from rfl, s10] at this)
  refine wpIn_block ?_
  refine range_law (m := 4) e10 (enters81) (rules_seq n (by omega) 4 ad w3 hadb hcell) (fun _ => rfl)
    (fun xs => ∀ x ∈ xs, (snd x && bst x) = false)
    (fun xs => LeftR w3 c3 (fun h => ∃ pre y, xs = pre ++ [y] ∧ (∀ x ∈ pre, (snd x && bst x) = false) ∧ (snd y && bst y) = true ∧ h.bl 1 = some (.cells false false [LP (val y)])))
    (fun x hx => by cases hx) (fun xs W o o' l hle hl ho ho' q => q.turn H3 hle hl ho ho') ?round ?done ?stop
  case round =>
    refine round_WP hext0 hlate0 25 H3 S3 (by decide) rfl rfl rfl (by kernel_rfl) (encR_ok n) _ _ fun pre x hpre hlen => ?_
    obtain ⟨f0, f1, f2, f3, f4, f5, hru⟩ : ∃ f0 f1 f2 f3 f4 f5, uR n x = .agg [.bool f0, .bool f1, .bool f2, .bool f3, .bool f4, .bool f5] := by
      have hl := ruleN_len n n x
      unfold uR
      match ruleN n n x, hl with
      | [a, b, c, d, e, f], _ => exact ⟨a, b, c, d, e, f, rfl⟩
    have k54 := fun h h' K => ConW_num (h := h) (h' := h') (K := K) (Y.sound x) rfl
    rw [← hnn, hru] at k54
    rw [hru]
    have hst6 : ∀ (h : Hp) (id : Nat), storeC h id 0 6 (some (.cells false false [.bool false, .bool false, .bool false, .bool false, .bool false, .bool false])) [.bool f0, .bool f1, .bool f2, .bool f3, .bool f4, .bool f5] = some (.skp, h.put id (some (.cells false false [.bool f0, .bool f1, .bool f2, .bool f3, .bool f4, .bool f5]))) := fun h id => by simp [storeC, setL, AV.isCell]
    have hld6 : loadC (some (.array 6 4)) (some 6) (some ([.bool f0, .bool f1, .bool f2, .bool f3, .bool f4, .bool f5], 0)) = some (.agg [.bool f0, .bool f1, .bool f2, .bool f3, .bool f4, .bool f5]) := loadC_agg _ 6 rfl _ 0 (by simp)
    have vA1 : viewSt h3 st 1 = .pp [LLI nx, LI pay, LI cost] := by
      simp only [viewSt, s1, viewV, b0, AV.pureL, pure_L, Bool.and_self, if_true, List.drop_zero]
    have vA3 : viewSt h3 st 3 = .pp [I n] := by
      simp only [viewSt, s3, viewV, b2]; rfl
    cases hs : snd x with
    | false =>
      left
      simp (disch := first | (simp only [go_sem, gb0, eq_self]; done) | omega | (simp only [gl1, gl2]; omega)) only [go_sem, ↓reduceIte, Nat.reduceEqDiff, Nat.reduceAdd, Nat.reduceMul, Nat.reduceSub, Int.reduceToNat, Nat.reduceBEq, vA1, vA3, hst6, hld6, k54, hs]
      intro y hy
      rcases List.mem_append.1 hy with hy | hy
      · exact hpre y hy
      · rw [List.mem_singleton.1 hy, hs]; rfl
    | true =>
    obtain ⟨cs, heq, hpe⟩ := Y.pureE x hs
    have c56 := Y.eqs x hs
    have c55 := Y.sol x hs
    rw [← hnn, hru] at c56
    rw [← hnn] at c55
    rw [heq] at c56 c55
    have k56 : ∀ (h : Hp) K, ConW Try.prog cfg 56 h (some ([.agg [LLI nx, LI pay, LI cost], .agg [.bool f0, .bool f1, .bool f2, .bool f3, .bool f4, .bool f5]], h)) K = K (.agg cs) h := fun h K => by
      cases hsc : (AV.agg cs).isScalar with
      | true => exact ConW_num c56 hsc
      | false => exact ConW_any c56 hsc
    have k55 := fun h h' K => ConW_any (h := h) (h' := h') (K := K) c55 rfl
    have hi55 : ∀ (h : Hp) (l : List (Int × Int)), importR h (LP l) = (LP l, h) := fun _ _ => rfl
    have k69 := fun h h' K => ConW_num (h := h) (h' := h') (K := K) (Y.best x hs) rfl
    have hsE : ∀ h : Hp, sealA h (.agg cs) = some (.agg cs, h) := fun h => sealA_agg cs hpe
    cases hb : bst x with
    | false =>
      left
      simp (disch := first | (simp only [go_sem, gb0, eq_self]; done) | omega | (simp only [gl1, gl2]; omega)) only [go_sem, ↓reduceIte, Nat.reduceEqDiff, Nat.reduceAdd, Nat.reduceMul, Nat.reduceSub, Int.reduceToNat, Nat.reduceBEq, vA1, vA3, hst6, hld6, k54, hs, k56, hsE, k55, hi55, k69, hb]
      intro y hy
      rcases List.mem_append.1 hy with hy | hy
      · exact hpre y hy
      · rw [List.mem_singleton.1 hy, hs, hb]; rfl
    | true =>
      right
      have hstL : ∀ h : Hp, storeC h 1 0 1 (some (.cells false false [.nil])) [LP (val x)] = some (.skp, h.put 1 (some (.cells false false [LP (val x)]))) := fun h => storeC_single _ _ _ _ rfl
      simp (disch := first | (simp only [go_sem, gb0, eq_self]; done) | omega | (simp only [gl1, gl2]; omega)) only [go_sem, ↓reduceIte, Nat.reduceEqDiff, Nat.reduceAdd, Nat.reduceMul, Nat.reduceSub, Int.reduceToNat, Nat.reduceBEq, s1, s2, s3, hnx, b0, b1, b2, hst6, hld6, k54, hs, k56, hsE, k55, hi55, k69, hb, hstL]
      exact ⟨pre, x, rfl, hpre, by rw [hs, hb]; rfl, rfl⟩
  case done =>
    intro D xs W hxs hφ hB hD hK
    have hltD := (Array.getElem?_eq_some_iff.1 hK).1
    have g2 : ∀ b, (c3.fz b ∨ b = D) → c3.fz b ∨ (w3.heap.size ≤ b ∧ b < W.heap.size) := fun b hb => by
      rcases hb with hb | rfl
      · exact .inl hb
      · exact .inr ⟨hD, hltD⟩
    have E4 := Ext.grow H3 hB (fun b => c3.fz b ∨ b = D) (fun _ h => .inl h) g2
    have H4 := H3.grow hB (fun b => c3.fz b ∨ b = D) (fun _ h => .inl h) g2
    have S4 := S3.mono E4
    have hw : opWrite Try.prog (.store 28 (.tmp 2) (.const (.slice none 0 0))) (ev st) h3 = some (.skp, h3.put 1 (some (.cells false false [.nil]))) := by
      show storeB h3 (isz Try.prog 28) (st 2) .nil = _
      rw [s2, isz28]
      simp [storeB, b1, AV.cells, AV.isCell, setL]
    obtain ⟨nxt, w5, c5, hr5, E5, H5, hnx5⟩ := opWrite_ok (P := Try.prog) (o := ⟨none, .store 28 (.tmp 2) (.const (.slice none 0 0)), 0, "stop.go:203", #[], none⟩) H4 S4.ev hw
    have step : ∀ (b : Act) (K : Act → World → Prop), b.tmps = a3.tmps → K b w5 → Oper.wpIn (rF none) 5 Try.prog ⟨none, .store 28 (.tmp 2) (.const (.slice none 0 0)), 0, "stop.go:203", #[], none⟩ b W K (Exit.then (Code.wpIn (rF none) 5 Try.prog .ret Q) Q) := fun b K hb hK => by
      have he : b.eval = a3.eval := by
        funext x
        cases x <;> simp [Act.eval, hb]
      rw [← he] at hr5
      rcases hnx5 with ⟨x, rfl, h4⟩ | ⟨rfl, _⟩
      · exact next_valueIn (fun c h => by cases h) hr5 hK
      · exact next_skipIn (fun c h => by cases h) hr5 hK
    refine wpIn_seq (wpIn_region ?_)
    show wpOpsIn (rF none) 5 Try.prog _ _ [0] _ W
    have want : ∀ (o : Oper) (f : Nat → Option Bool), o.guard = none → Region.wanted o f = true := fun o f h => by simp [Region.wanted, h]
    simp only [wpOpsIn, List.getElem?_toArray, List.getElem?_cons_zero, List.getElem?_cons_succ, want, if_true]
    refine step _ _ rfl ?_
    refine wpIn_ret ?_
    rw [← hQ]
    have hK5 : w5.heap[D]? = some (.deferred (some [])) := (E5.keep D (.inr rfl)).trans hK
    have hff : firstOf snd bst val (List.range (2 ^ nx.length)) = [] := by
      rw [← hnn, ← hxs, firstOf]
      rw [List.find?_eq_none.2 fun x hx => by rw [hφ x hx]; simp]
    rw [hff] at hR
    have Eall := ((((E1.trans E2).trans E3).trans E4).trans E5)
    have hSd : ({ a3 with defers := { target := .collected D, args := #[] } :: a3.defers } : Act) = { a3 with defers := [{ target := .collected D, args := #[] }] } := by rw [S3.defers]
    rw [hSd]
    have S5 := S4.mono E5
    refine leave_ok (n := 25) (v := .nil) (r := .lst []) (ow := false) (kn := false) (ts := [28]) Eall H5 (a := a3) (st := st) S5 hK5 ?_ ?_ (fun b hp => by rw [hc0] at hp; exact hp.elim) ?_ ?_ ?_
    · rw [hbase0]; have := E1.trans (E2.trans E3); have h1 := this.below.size; omega
    · intro b hb e
      rw [hfz0] at hb
      have h1 := hf b hb
      have := (E1.trans (E2.trans E3)).below.size
      omega
    · have hp1 : (h3.put 1 (some (.cells false false [.nil]))).bl 1 = some (.cells false false [.nil]) := by rw [put_bl, if_pos rfl]
      exact res_cell s2 hp1
    · rfl
    · rw [hbase0, hfz0]; exact hR
  case stop =>
    intro D xs W hpre hψ hD hK
    obtain ⟨c', h', E', H', pre, y, rfl, hno, hyes, hb1⟩ := hψ
    have S' := S3.mono E'
    show Q .ret _ W
    rw [← hQ]
    have hSd : ({ a3 with defers := { target := .collected D, args := #[] } :: a3.defers } : Act) = { a3 with defers := [{ target := .collected D, args := #[] }] } := by rw [S3.defers]
    rw [hSd]
    have Eall := (((E1.trans E2).trans E3).trans E')
    have hff : firstOf snd bst val (List.range (2 ^ nx.length)) = val y := by
      obtain ⟨m, hm⟩ := hpre
      rw [← hnn, ← hm, firstOf]
      have : (pre ++ [y] ++ m).find? (fun x => snd x && bst x) = some y := by
        rw [List.append_assoc, List.find?_append, List.find?_eq_none.2 fun x hx => by rw [hno x hx]; simp]
        simp [hyes]
      rw [this]
    rw [hff] at hR
    refine leave_ok (n := 25) (v := LP (val y)) (r := LP (val y)) (ow := false) (kn := false) (ts := [28]) Eall H' (a := a3) (st := st) S' hK ?_ ?_ (fun b hp => by rw [hc0] at hp; exact hp.elim) ?_ ?_ ?_
    · rw [hbase0]; have := E1.trans (E2.trans E3); have h1 := this.below.size; omega
    · intro b hb e
      rw [hfz0] at hb
      have h1 := hf b hb
      have := (E1.trans (E2.trans E3)).below.size
      omega
    · exact res_cell s2 hb1
    · exact export_L false 28 (val y)
    · rw [hbase0, hfz0]; exact hR
end Go.Proofs.Ytgamcclfdkpcgaa

set_option linter.unusedVariables false
set_option linter.unusedSimpArgs false
set_option maxRecDepth 10000
namespace Go.Proofs.Ytgamcclfdkpcgaa
open Go Go.Am Go.RowKit

variable {h h' : Hp} {K : AV → Hp → Prop}

def cA : AV := .agg [LLI [[0, 4], [0, 0]], LI [1, 5], LI [2, 0]]
def uA (b0 b1 : Bool) : AV := .agg [.bool b0, .bool b1, .bool false, .bool false, .bool false, .bool false]
noncomputable def callA (f : FuncId) (args : List AV) : AV := (callP Try.prog cfg 400 f args).getD .skp
def boolA : AV → Bool
  | .bool b => b
  | _ => false
def fracA : AV → List (Int × Int)
  | .lst rows => rows.map fun r => match r with | [.int _ a, .int _ b] => (a, b) | _ => (0, 0)
  | _ => []
def aggA : AV → List AV
  | .agg cs => cs
  | _ => []
noncomputable def sndA (b0 b1 : Bool) : Bool := boolA (callA 54 [cA, uA b0 b1])
noncomputable def eqA (b0 b1 : Bool) : List AV := aggA (callA 56 [cA, uA b0 b1])
noncomputable def valA (b0 b1 : Bool) : List (Int × Int) := fracA (callA 55 [.agg (eqA b0 b1), I 2])
noncomputable def bstA (b0 b1 : Bool) : Bool := boolA (callA 69 [cA, LP (valA b0 b1)])
theorem uA_ok (x : Nat) : uR 2 x = uA (x.testBit 0) (x.testBit 1) := rfl
theorem run54 : ∀ b0 b1, callP Try.prog cfg 400 54 [cA, uA b0 b1] = some (.bool (sndA b0 b1))
  | true, true => by kernel_rfl
  | true, false => by kernel_rfl
  | false, true => by kernel_rfl
  | false, false => by kernel_rfl
theorem run56 : ∀ b0 b1, callP Try.prog cfg 400 56 [cA, uA b0 b1] = some (.agg (eqA b0 b1))
  | true, true => by kernel_rfl
  | true, false => by kernel_rfl
  | false, true => by kernel_rfl
  | false, false => by kernel_rfl
theorem pure56 : ∀ b0 b1, AV.pureL (eqA b0 b1) = true
  | true, true => by kernel_rfl
  | true, false => by kernel_rfl
  | false, true => by kernel_rfl
  | false, false => by kernel_rfl
theorem run55 : ∀ b0 b1, callP Try.prog cfg 400 55 [.agg (eqA b0 b1), I 2] = some (LP (valA b0 b1))
  | true, true => by kernel_rfl
  | true, false => by kernel_rfl
  | false, true => by kernel_rfl
  | false, false => by kernel_rfl
theorem run69 : ∀ b0 b1, callP Try.prog cfg 400 69 [cA, LP (valA b0 b1)] = some (.bool (bstA b0 b1))
  | true, true => by kernel_rfl
  | true, false => by kernel_rfl
  | false, true => by kernel_rfl
  | false, false => by kernel_rfl
theorem ways : Ways cA 2 (fun x => sndA (x.testBit 0) (x.testBit 1)) (fun x => bstA (x.testBit 0) (x.testBit 1)) (fun x => .agg (eqA (x.testBit 0) (x.testBit 1))) (fun x => valA (x.testBit 0) (x.testBit 1)) :=
  ⟨fun x => by rw [uA_ok]; exact ⟨400, run54 _ _⟩, fun x _ => by rw [uA_ok]; exact ⟨400, run56 _ _⟩, fun x _ => ⟨_, rfl, pure56 _ _⟩, fun x _ => ⟨400, run55 _ _⟩, fun x _ => ⟨400, run69 _ _⟩⟩
theorem best_a : firstOf (fun x => sndA (x.testBit 0) (x.testBit 1)) (fun x => bstA (x.testBit 0) (x.testBit 1)) (fun x => valA (x.testBit 0) (x.testBit 1)) (List.range (2 ^ 2)) = [(3, 1), (5, 1)] := by kernel_rfl
theorem f49_a : PureOk Try.prog 49 [cA] (LP [(3, 1), (5, 1)]) := by
  rw [← best_a]
  exact best_pure [[0, 4], [0, 0]] [1, 5] [2, 0] (by decide) ways

def extK (f : FuncId) : List AV → Option AV
  | [.agg [.lst [[.lst [[.int .i64 0], [.int .i64 4]]], [.lst [[.int .i64 0], [.int .i64 0]]]], .lst [[.int .i64 1], [.int .i64 5]], .lst [[.int .i64 2], [.int .i64 0]]]] =>
    if f = 49 then some (LP [(3, 1), (5, 1)]) else none
  | _ => none
def cfgK : Cfg := { cfg with ext := extK }
theorem hextK : ExtOk Try.prog cfgK := by
  intro f args r he
  have he : extK f args = some r := he
  unfold extK at he
  split at he
  · split at he
    · rename_i hf
      cases he
      subst hf
      exact ⟨f49_a, fun _ => rfl⟩
    · cases he
  · cases he
theorem f21_run : callP Try.prog cfgK 500 21 [] = some (.bool true) := by kernel_rfl
theorem f21_pure : PureOk Try.prog 21 [] (.bool true) := (sound hextK 500).2.2.1 _ _ _ f21_run
end Go.Proofs.Ytgamcclfdkpcgaa

set_option linter.unusedVariables false
set_option linter.unusedSimpArgs false
set_option maxRecDepth 10000
namespace Go.Proofs.Ytgamcclfdkpcgaa
open Go Go.Am Go.RowKit

variable {c : Cfg} {h h' : Hp} {K : AV → Hp → Prop} {ops : Array Oper} {lim : Option Nat} {st : St}

@[go_sem ↓ high] theorem W_b37z : StepW Try.prog c ops lim (.build 37 #[]) st h K = K (.agg [I 0, I 0]) h := by
  rw [W_build, show buildB Try.prog (Try.prog.underlying 37) (izero Try.prog 37) ((#[] : Array (Nat × Operand)).toList.map fun p => (p.1, ev st p.2)) = some (.agg [I 0, I 0]) by kernel_rfl]
  exact getW_some _
/-- Two numbers, as a fraction. -/
noncomputable def mk37 (x y : AV) : Option AV := buildB Try.prog (Try.prog.underlying 37) (izero Try.prog 37) [(0, x), (1, y)]
@[go_sem ↓ high] theorem W_b37 (a b : Operand) : StepW Try.prog c ops lim (.build 37 #[(0, a), (1, b)]) st h K = getW (mk37 (ev st a) (ev st b)) h K := by
  rw [W_build]; rfl
@[go_sem] theorem mk37_I (x y : Int) : mk37 (I x) (I y) = some (.agg [I x, I y]) := by kernel_rfl
noncomputable def eq37 (x y : AV) : Option AV := binA Try.prog .eql 37 x y
noncomputable def ne37 (x y : AV) : Option AV := binA Try.prog .neq 37 x y
@[go_sem ↓ high] theorem W_eq37 (x y : Operand) (z) : StepW Try.prog c ops lim (.binOp .eql 37 x y z) st h K = getW (eq37 (ev st x) (ev st y)) h K := StepW_pureOp rfl rfl rfl rfl fun _ => rfl
@[go_sem ↓ high] theorem W_ne37 (x y : Operand) (z) : StepW Try.prog c ops lim (.binOp .neq 37 x y z) st h K = getW (ne37 (ev st x) (ev st y)) h K := StepW_pureOp rfl rfl rfl rfl fun _ => rfl
@[go_sem] theorem eq37_I (a b c d : Int) : eq37 (.agg [I a, I b]) (.agg [I c, I d]) = some (.bool (decide (a = c) && decide (b = d))) := by
  have : eq37 (.agg [I a, I b]) (.agg [I c, I d]) = some (.bool ((a == c && (b == d && true)) == true)) := by kernel_rfl
  rw [this]; simp [Bool.beq_eq_decide_eq]
@[go_sem] theorem ne37_I (a b c d : Int) : ne37 (.agg [I a, I b]) (.agg [I c, I d]) = some (.bool (!(decide (a = c) && decide (b = d)))) := by
  have : ne37 (.agg [I a, I b]) (.agg [I c, I d]) = some (.bool ((a == c && (b == d && true)) == false)) := by kernel_rfl
  rw [this]; simp [Bool.beq_eq_decide_eq]

@[go_sem] theorem storeC_w2 (id : Nat) (row : Bool) (a b x y : AV) : storeC h id 0 2 (some (.cells false row [a, b])) [x, y] = if (x.isCell && y.isCell) = true then some (.skp, h.put id (some (.cells false row [x, y]))) else none := by
  simp [storeC, setL]
@[go_sem] theorem storeC_w3 (id : Nat) (row : Bool) (a b c x y z : AV) : storeC h id 0 3 (some (.cells false row [a, b, c])) [x, y, z] = if (x.isCell && (y.isCell && z.isCell)) = true then some (.skp, h.put id (some (.cells false row [x, y, z]))) else none := by
  simp [storeC, setL]

@[go_sem] theorem ev_nilmap : ev st (.const (.map none)) = .nilmp := rfl

/-! ### Results that lie in memory -/
def resC (P : Program) (h : Hp) (t : TypeId) : AV → Option AV
  | .ptr id off => loadC (P.underlying t) (isz P t) (cellsAt none h (.ptr id off))
  | _ => none
@[go_sem] theorem resC_ptr (P : Program) (t : TypeId) (id off : Nat) : resC P h t (.ptr id off) = loadC (P.underlying t) (isz P t) (cellsAt none h (.ptr id off)) := rfl
theorem resA_cell (P : Program) (a t : Nat) : resA P h st (.cell a t) = resC P h t (st a) := by
  simp only [resA]
  cases st a <;> try rfl
  rename_i id off
  simp only [resC, loadC, cellsAt, loadA_B]
  cases rd h none id <;> rfl
@[go_sem] theorem resR_c (P : Program) (a t : Nat) : resR P h st [.cell a t] = resC P h t (st a) := by
  simp only [resR, resL, resA_cell]; cases resC P h t (st a) <;> rfl
/-! ### copy -/
def slId : AV → Nat
  | .sl id _ _ _ => id
  | _ => 0
@[go_sem] theorem slId_sl (id o n s : Nat) : slId (.sl id o n s) = id := rfl
def copyC (h : Hp) (u : Option TypeDesc) (s : Option Nat) (x : AV) (b : Option Blk) (ys : Option (List AV)) (m : Option Nat) : Option (AV × Hp) :=
  match u, x with
  | some (.slice _), .sl id off n sz => match s, ys, m, b with
    | some sz', some ys, some m, some (.cells false row flat) =>
      if sz' = sz ∧ 0 < sz ∧ ys.length = m * sz ∧ off + n * sz ≤ flat.length ∧ ys.all AV.isCell then
        some (.int .i64 (min m n : Nat), h.put id (some (.cells false row (setL flat off (ys.take (min m n * sz)))))) else none
    | _, _, _, _ => none
  | _, _ => none
@[go_sem ↓] theorem W_copy (x y : Operand) (t t' : TypeId) : StepW Try.prog c ops lim (.call ⟨.builtin .copy, #[x, y], #[t, t']⟩) st h K =
    getW2 (copyC h (Try.prog.underlying t) (isz Try.prog (match Try.prog.underlying t with | some (.slice e) => e | _ => 0)) (ev st x) (h.bl (slId (ev st x))) (cellsOf h none (ev st y)) (lenA (ev st y))) K := by
  refine StepW_writeOp ?_ rfl rfl rfl fun _ => rfl
  simp only [opWrite, copyC, List.getElem?_toArray, List.getElem?_cons_zero, List.getElem?_cons_succ, Option.map_some]
  generalize ev st x = v
  cases v <;> dsimp only <;> generalize Try.prog.underlying t = u <;> (cases u with
    | none => rfl
    | some d => cases d <;> rfl)
/-! ### A part of an array -/
def sliceC (s : Option Nat) (n off id : Nat) (lo hi : Option AV) (b : Option Blk) (l : Bool) : Option AV :=
  (hiB hi n).bind fun b' => (loB lo b').bind fun a => match s, b with
    | some sz, some (.cells _ false flat) => if off + n * sz ≤ flat.length ∧ n ≤ maxLen ∧ l = true then some (.sl id (off + a * sz) (b' - a) sz) else none
    | _, _ => none
@[go_sem] theorem sliceB_arr (P : Program) (n e id off : Nat) (lo hi : Option AV) : sliceB P (some (.array n e)) (.ptr id off) lo hi h lim = sliceC (isz P e) n off id lo hi (h.bl id) (lims lim id) := rfl
end Go.Proofs.Ytgamcclfdkpcgaa

set_option linter.unusedVariables false
set_option linter.unusedSimpArgs false
set_option maxRecDepth 10000
namespace Go.Proofs.Ytgamcclfdkpcgaa
open Go Go.Am Go.RowKit

variable {h h' : Hp} {K : AV → Hp → Prop}

def inB (n lo hi : Int) : Bool := decide (lo ≤ n) && decide (n ≤ hi)
theorem f50_con (n lo hi : Int) : Con Try.prog cfg 50 [I n, I lo, I hi] (.bool (inB n lo hi)) := by
  by_cases hc : lo ≤ n
  · have : inB n lo hi = decide (n ≤ hi) := by simp [inB, hc]
    rw [this]
    refine Con_intro Try.func50 rfl ok50 (Nat.le_of_ble_eq_true rfl) rfl ?_
    simp only [Try.f50, Option.getD_some, initSt3]
    simp (disch := first | (simp only [go_sem, gb0, eq_self]; done) | omega | (simp only [gl1, gl2]; omega)) only [go_sem, ↓reduceIte, Nat.reduceEqDiff, Nat.reduceAdd, Nat.reduceMul, Nat.reduceSub, Int.reduceToNat, Nat.reduceBEq, hc]
  · have : inB n lo hi = false := by simp [inB, hc]
    rw [this]
    refine Con_intro Try.func50 rfl ok50 (Nat.le_of_ble_eq_true rfl) rfl ?_
    simp only [Try.f50, Option.getD_some, initSt3]
    simp (disch := first | (simp only [go_sem, gb0, eq_self]; done) | omega | (simp only [gl1, gl2]; omega)) only [go_sem, ↓reduceIte, Nat.reduceEqDiff, Nat.reduceAdd, Nat.reduceMul, Nat.reduceSub, Int.reduceToNat, Nat.reduceBEq, hc]
@[go_sem] theorem k50 (n lo hi : Int) : ConW Try.prog cfg 50 h (some ([I n, I lo, I hi], h')) K = K (.bool (inB n lo hi)) h := ConW_num (f50_con n lo hi) rfl

def gcdI (a b : Int) : Int := (Int.gcd a b : Int)
theorem gcdI_step (a b : Int) : gcdI b (a.tmod b) = gcdI a b := by
  unfold gcdI
  rw [Int.gcd_comm a b]
  congr 1
  have h1 : b.gcd (a.tmod b) = b.natAbs.gcd (a.natAbs % b.natAbs) := by
    show b.natAbs.gcd (a.tmod b).natAbs = _
    rw [Int.natAbs_tmod]
  rw [h1, Nat.gcd_comm b.natAbs (a.natAbs % b.natAbs), ← Nat.gcd_rec]
  rfl
theorem gcdI_zero (a : Int) : gcdI a 0 = (a.natAbs : Int) := by
  unfold gcdI; rw [Int.gcd_zero_right]
theorem gcdI_nonneg (a b : Int) : 0 ≤ gcdI a b := Int.natCast_nonneg _
theorem gcdI_pos {a b : Int} (hb : b ≠ 0) : 0 < gcdI a b := by
  unfold gcdI
  have : Int.gcd a b ≠ 0 := by rw [Ne, Int.gcd_eq_zero_iff]; omega
  omega
abbrev big : Int := 4611686018427387904
theorem tmod_lt_abs (x : Int) {y : Int} (hy : y ≠ 0) : (x.tmod y).natAbs < y.natAbs := by
  rw [Int.natAbs_tmod]; exact Nat.mod_lt _ (by omega)
theorem f79_con (a b : Int) (ha : -big ≤ a ∧ a ≤ big) (hb : -big ≤ b ∧ b ≤ big) : Con Try.prog cfg 79 [I a, I b] (I (gcdI a b)) := by
  refine Con_intro Try.func79 rfl ok79 (Nat.le_of_ble_eq_true rfl) rfl ?_
  simp only [Try.f79, Option.getD_some, initSt2]
  simp (disch := first | (simp only [go_sem, gb0, eq_self]; done) | omega | (simp only [gl1, gl2]; omega)) only [go_sem, ↓reduceIte, Nat.reduceEqDiff, Nat.reduceAdd, Nat.reduceMul, Nat.reduceSub, Int.reduceToNat, Nat.reduceBEq]
  refine WP_cut (fun st h => ∃ x : Int, -big ≤ x ∧ x ≤ big ∧ (x.natAbs : Int) = gcdI a b ∧ st 0 = I x) ?_ ?_
  · refine WP_loopK (fun m st h => ∃ x y : Int, m = y.natAbs ∧ -big ≤ x ∧ x ≤ big ∧ -big ≤ y ∧ y ≤ big ∧ gcdI x y = gcdI a b ∧ st 0 = I x ∧ st 1 = I y) b.natAbs
      ⟨a, b, rfl, ha.1, ha.2, hb.1, hb.2, rfl, by simp (disch := first | (simp only [go_sem, gb0, eq_self]; done) | omega | (simp only [gl1, gl2]; omega)) only [go_sem, ↓reduceIte, Nat.reduceEqDiff, Nat.reduceAdd, Nat.reduceMul, Nat.reduceSub, Int.reduceToNat, Nat.reduceBEq], by simp (disch := first | (simp only [go_sem, gb0, eq_self]; done) | omega | (simp only [gl1, gl2]; omega)) only [go_sem, ↓reduceIte, Nat.reduceEqDiff, Nat.reduceAdd, Nat.reduceMul, Nat.reduceSub, Int.reduceToNat, Nat.reduceBEq]⟩ ?_
    rintro n st h ⟨x, y, rfl, hx0, hx1, hy0, hy1, hgg, s0, s1⟩
    by_cases hy : y = 0
    · subst hy
      rw [gcdI_zero] at hgg
      simp (disch := first | (simp only [go_sem, gb0, eq_self]; done) | omega | (simp only [gl1, gl2]; omega)) only [go_sem, ↓reduceIte, Nat.reduceEqDiff, Nat.reduceAdd, Nat.reduceMul, Nat.reduceSub, Int.reduceToNat, Nat.reduceBEq, s0, s1]
      exact ⟨x, hx0, hx1, hgg, rfl⟩
    have hlt := tmod_lt_abs x hy
    simp (disch := first | (simp only [go_sem, gb0, eq_self]; done) | omega | (simp only [gl1, gl2]; omega)) only [go_sem, ↓reduceIte, Nat.reduceEqDiff, Nat.reduceAdd, Nat.reduceMul, Nat.reduceSub, Int.reduceToNat, Nat.reduceBEq, s0, s1, hy]
    rw [LoopK_normal]
    exact ⟨(x.tmod y).natAbs, hlt, y, x.tmod y, rfl, hy0, hy1, by simp only [big] at *; omega, by simp only [big] at *; omega, (gcdI_step x y).trans hgg, by simp (disch := first | (simp only [go_sem, gb0, eq_self]; done) | omega | (simp only [gl1, gl2]; omega)) only [go_sem, ↓reduceIte, Nat.reduceEqDiff, Nat.reduceAdd, Nat.reduceMul, Nat.reduceSub, Int.reduceToNat, Nat.reduceBEq], by simp (disch := first | (simp only [go_sem, gb0, eq_self]; done) | omega | (simp only [gl1, gl2]; omega)) only [go_sem, ↓reduceIte, Nat.reduceEqDiff, Nat.reduceAdd, Nat.reduceMul, Nat.reduceSub, Int.reduceToNat, Nat.reduceBEq]⟩
  · rintro st h ⟨x, hx0, hx1, hx, s0⟩
    have e1 : max x (0 - x) = gcdI a b := by omega
    simp only [big] at hx0 hx1
    simp (disch := first | (simp only [go_sem, gb0, eq_self]; done) | omega | (simp only [gl1, gl2]; omega)) only [go_sem, ↓reduceIte, Nat.reduceEqDiff, Nat.reduceAdd, Nat.reduceMul, Nat.reduceSub, Int.reduceToNat, Nat.reduceBEq, s0, e1]
theorem k79 (a b : Int) (ha : -big ≤ a ∧ a ≤ big) (hb : -big ≤ b ∧ b ≤ big) : ConW Try.prog cfg 79 h (some ([I a, I b], h')) K = K (I (gcdI a b)) h := ConW_num (f79_con a b ha hb) rfl

/-- A fraction without a common divisor; its denominator is positive. -/
def rdP (a b : Int) : Int × Int := if b < 0 then (-a / gcdI a b, -b / gcdI a b) else (a / gcdI a b, b / gcdI a b)
abbrev FR (q : Int × Int) : AV := .agg [I q.1, I q.2]
theorem gcdI_neg (a b : Int) : gcdI (-a) (-b) = gcdI a b := by simp [gcdI]
theorem tdiv_gcd_l (a b : Int) : a.tdiv (gcdI a b) = a / gcdI a b := Int.tdiv_eq_ediv_of_dvd (Int.gcd_dvd_left a b)
theorem tdiv_gcd_r (a b : Int) : b.tdiv (gcdI a b) = b / gcdI a b := Int.tdiv_eq_ediv_of_dvd (Int.gcd_dvd_right a b)
theorem div_rng {a g : Int} (hg : 0 < g) (hd : g ∣ a) : -(a.natAbs : Int) ≤ a / g ∧ a / g ≤ a.natAbs := by
  obtain ⟨k, rfl⟩ := hd
  rw [Int.mul_ediv_cancel_left k (by omega)]
  have h1 : (g * k).natAbs = g.natAbs * k.natAbs := Int.natAbs_mul g k
  have h2 : k.natAbs ≤ g.natAbs * k.natAbs := Nat.le_mul_of_pos_left _ (by omega)
  rw [h1]; omega
theorem f70_con (a b : Int) (ha : -big ≤ a ∧ a ≤ big) (hb : -big ≤ b ∧ b ≤ big) (hb0 : b ≠ 0) : Con Try.prog cfg 70 [I a, I b] (FR (rdP a b)) := by
  have hg := gcdI_pos (a := a) hb0
  have dl : gcdI a b ∣ a := Int.gcd_dvd_left a b
  have dr : gcdI a b ∣ b := Int.gcd_dvd_right a b
  have g0 : ¬ gcdI a b = 0 := by omega
  have r1 := div_rng hg dl
  have r2 := div_rng hg dr
  simp only [big] at ha hb
  by_cases hn : b < 0
  · have hr : rdP a b = (-a / gcdI a b, -b / gcdI a b) := by simp [rdP, hn]
    have kg := fun h h' K => k79 (h := h) (h' := h') (K := K) (0 - a) (0 - b) (by simp only [big]; omega) (by simp only [big]; omega)
    have e0 : gcdI (0 - a) (0 - b) = gcdI a b := by rw [Int.zero_sub, Int.zero_sub, gcdI_neg]
    rw [e0] at kg
    have t1 : (0 - a).tdiv (gcdI a b) = -a / gcdI a b := by rw [Int.zero_sub, Int.tdiv_eq_ediv_of_dvd ((Int.dvd_neg).2 dl)]
    have t2 : (0 - b).tdiv (gcdI a b) = -b / gcdI a b := by rw [Int.zero_sub, Int.tdiv_eq_ediv_of_dvd ((Int.dvd_neg).2 dr)]
    have q1 := div_rng hg ((Int.dvd_neg).2 dl)
    have q2 := div_rng hg ((Int.dvd_neg).2 dr)
    rw [hr]
    refine Con_intro Try.func70 rfl ok70 (Nat.le_of_ble_eq_true rfl) rfl ?_
    simp only [Try.f70, Option.getD_some, initSt2]
    simp (disch := first | (simp only [go_sem, gb0, eq_self]; done) | omega | (simp only [gl1, gl2]; omega)) only [go_sem, ↓reduceIte, Nat.reduceEqDiff, Nat.reduceAdd, Nat.reduceMul, Nat.reduceSub, Int.reduceToNat, Nat.reduceBEq, hn, kg, t1, t2, g0]
    rfl
  · have hr : rdP a b = (a / gcdI a b, b / gcdI a b) := by simp [rdP, hn]
    have kg := fun h h' K => k79 (h := h) (h' := h') (K := K) a b (by simp only [big]; omega) (by simp only [big]; omega)
    have t1 := tdiv_gcd_l a b
    have t2 := tdiv_gcd_r a b
    rw [hr]
    refine Con_intro Try.func70 rfl ok70 (Nat.le_of_ble_eq_true rfl) rfl ?_
    simp only [Try.f70, Option.getD_some, initSt2]
    simp (disch := first | (simp only [go_sem, gb0, eq_self]; done) | omega | (simp only [gl1, gl2]; omega)) only [go_sem, ↓reduceIte, Nat.reduceEqDiff, Nat.reduceAdd, Nat.reduceMul, Nat.reduceSub, Int.reduceToNat, Nat.reduceBEq, hn, kg, t1, t2, g0]
    rfl
theorem k70 (a b : Int) (ha : -big ≤ a ∧ a ≤ big) (hb : -big ≤ b ∧ b ≤ big) (hb0 : b ≠ 0) : ConW Try.prog cfg 70 h (some ([I a, I b], h')) K = K (FR (rdP a b)) h := ConW_num (f70_con a b ha hb hb0) rfl

/-! ### The reference's -/
theorem f71_con (a b : Int) (ha : 0 ≤ a ∧ a ≤ big) (hb : 0 ≤ b ∧ b ≤ big) : Con Try.prog cfg 71 [I a, I b] (I (gcdI a b)) := by
  refine Con_intro Try.func71 rfl ok71 (Nat.le_of_ble_eq_true rfl) rfl ?_
  simp only [Try.f71, Option.getD_some, initSt2]
  simp (disch := first | (simp only [go_sem, gb0, eq_self]; done) | omega | (simp only [gl1, gl2]; omega)) only [go_sem, ↓reduceIte, Nat.reduceEqDiff, Nat.reduceAdd, Nat.reduceMul, Nat.reduceSub, Int.reduceToNat, Nat.reduceBEq]
  refine WP_loopK (fun m st h => ∃ x y : Int, m = y.toNat ∧ 0 ≤ x ∧ x ≤ big ∧ 0 ≤ y ∧ y ≤ big ∧ gcdI x y = gcdI a b ∧ st 0 = I x ∧ st 1 = I y) b.toNat
    ⟨a, b, rfl, ha.1, ha.2, hb.1, hb.2, rfl, by simp (disch := first | (simp only [go_sem, gb0, eq_self]; done) | omega | (simp only [gl1, gl2]; omega)) only [go_sem, ↓reduceIte, Nat.reduceEqDiff, Nat.reduceAdd, Nat.reduceMul, Nat.reduceSub, Int.reduceToNat, Nat.reduceBEq], by simp (disch := first | (simp only [go_sem, gb0, eq_self]; done) | omega | (simp only [gl1, gl2]; omega)) only [go_sem, ↓reduceIte, Nat.reduceEqDiff, Nat.reduceAdd, Nat.reduceMul, Nat.reduceSub, Int.reduceToNat, Nat.reduceBEq]⟩ ?_
  rintro n st h ⟨x, y, rfl, hx0, hx1, hy0, hy1, hgg, s0, s1⟩
  by_cases hy : 0 < y
  case neg =>
    obtain rfl : y = 0 := by omega
    rw [gcdI_zero] at hgg
    have : (x.natAbs : Int) = x := by omega
    rw [this] at hgg
    subst hgg
    have h00 : ¬ (0 : Int) < 0 := by decide
    simp (disch := first | (simp only [go_sem, gb0, eq_self]; done) | omega | (simp only [gl1, gl2]; omega)) only [go_sem, ↓reduceIte, Nat.reduceEqDiff, Nat.reduceAdd, Nat.reduceMul, Nat.reduceSub, Int.reduceToNat, Nat.reduceBEq, s0, s1, h00]
  have hy' : ¬ y = 0 := by omega
  have hm0 : 0 ≤ x.tmod y := Int.tmod_nonneg y hx0
  have hm1 : x.tmod y < y := Int.tmod_lt_of_pos x (by omega)
  simp only [big] at hx1 hy1
  simp (disch := first | (simp only [go_sem, gb0, eq_self]; done) | omega | (simp only [gl1, gl2]; omega)) only [go_sem, ↓reduceIte, Nat.reduceEqDiff, Nat.reduceAdd, Nat.reduceMul, Nat.reduceSub, Int.reduceToNat, Nat.reduceBEq, s0, s1, hy, hy']
  rw [LoopK_normal]
  exact ⟨(x.tmod y).toNat, by omega, y, x.tmod y, rfl, by omega, by simp only [big]; omega, hm0, by simp only [big]; omega, (gcdI_step x y).trans hgg, by simp (disch := first | (simp only [go_sem, gb0, eq_self]; done) | omega | (simp only [gl1, gl2]; omega)) only [go_sem, ↓reduceIte, Nat.reduceEqDiff, Nat.reduceAdd, Nat.reduceMul, Nat.reduceSub, Int.reduceToNat, Nat.reduceBEq], by simp (disch := first | (simp only [go_sem, gb0, eq_self]; done) | omega | (simp only [gl1, gl2]; omega)) only [go_sem, ↓reduceIte, Nat.reduceEqDiff, Nat.reduceAdd, Nat.reduceMul, Nat.reduceSub, Int.reduceToNat, Nat.reduceBEq]⟩
theorem k71 (a b : Int) (ha : 0 ≤ a ∧ a ≤ big) (hb : 0 ≤ b ∧ b ≤ big) : ConW Try.prog cfg 71 h (some ([I a, I b], h')) K = K (I (gcdI a b)) h := ConW_num (f71_con a b ha hb) rfl
theorem gcdI_abs (a b : Int) (m : Int) (hm : (a.natAbs : Int) = m) : gcdI m b = gcdI a b := by
  subst hm; rfl
theorem f53_con (a b : Int) (ha : -big ≤ a ∧ a ≤ big) (hb : -big ≤ b ∧ b ≤ big) (hb0 : b ≠ 0) : Con Try.prog cfg 53 [I a, I b] (FR (rdP a b)) := by
  have hg := gcdI_pos (a := a) hb0
  have dl : gcdI a b ∣ a := Int.gcd_dvd_left a b
  have dr : gcdI a b ∣ b := Int.gcd_dvd_right a b
  have g0 : ¬ gcdI a b = 0 := by omega
  have r1 := div_rng hg dl
  have r2 := div_rng hg dr
  simp only [big] at ha hb
  by_cases hn : b < 0
  · have hr : rdP a b = (-a / gcdI a b, -b / gcdI a b) := by simp [rdP, hn]
    have hmx : max (0 - a) (0 - (0 - a)) = ((0 - a).natAbs : Int) := by omega
    have kg := fun h h' K => k71 (h := h) (h' := h') (K := K) (max (0 - a) (0 - (0 - a))) (0 - b) (by simp only [big]; omega) (by simp only [big]; omega)
    have e0 : gcdI (max (0 - a) (0 - (0 - a))) (0 - b) = gcdI a b := by rw [gcdI_abs (0 - a) (0 - b) _ hmx.symm, Int.zero_sub, Int.zero_sub, gcdI_neg]
    rw [e0] at kg
    have t1 : (0 - a).tdiv (gcdI a b) = -a / gcdI a b := by rw [Int.zero_sub, Int.tdiv_eq_ediv_of_dvd ((Int.dvd_neg).2 dl)]
    have t2 : (0 - b).tdiv (gcdI a b) = -b / gcdI a b := by rw [Int.zero_sub, Int.tdiv_eq_ediv_of_dvd ((Int.dvd_neg).2 dr)]
    have q1 := div_rng hg ((Int.dvd_neg).2 dl)
    have q2 := div_rng hg ((Int.dvd_neg).2 dr)
    rw [hr]
    refine Con_intro Try.func53 rfl ok53 (Nat.le_of_ble_eq_true rfl) rfl ?_
    simp only [Try.f53, Option.getD_some, initSt2]
    simp (disch := first | (simp only [go_sem, gb0, eq_self]; done) | omega | (simp only [gl1, gl2]; omega)) only [go_sem, ↓reduceIte, Nat.reduceEqDiff, Nat.reduceAdd, Nat.reduceMul, Nat.reduceSub, Int.reduceToNat, Nat.reduceBEq, hn, kg, t1, t2, g0]
    rfl
  · have hr : rdP a b = (a / gcdI a b, b / gcdI a b) := by simp [rdP, hn]
    have hmx : max a (0 - a) = (a.natAbs : Int) := by omega
    have kg := fun h h' K => k71 (h := h) (h' := h') (K := K) (max a (0 - a)) b (by simp only [big]; omega) (by simp only [big]; omega)
    rw [gcdI_abs a b _ hmx.symm] at kg
    have t1 := tdiv_gcd_l a b
    have t2 := tdiv_gcd_r a b
    rw [hr]
    refine Con_intro Try.func53 rfl ok53 (Nat.le_of_ble_eq_true rfl) rfl ?_
    simp only [Try.f53, Option.getD_some, initSt2]
    simp (disch := first | (simp only [go_sem, gb0, eq_self]; done) | omega | (simp only [gl1, gl2]; omega)) only [go_sem, ↓reduceIte, Nat.reduceEqDiff, Nat.reduceAdd, Nat.reduceMul, Nat.reduceSub, Int.reduceToNat, Nat.reduceBEq, hn, kg, t1, t2, g0]
    rfl
theorem k53 (a b : Int) (ha : -big ≤ a ∧ a ≤ big) (hb : -big ≤ b ∧ b ≤ big) (hb0 : b ≠ 0) : ConW Try.prog cfg 53 h (some ([I a, I b], h')) K = K (FR (rdP a b)) h := ConW_num (f53_con a b ha hb hb0) rfl
end Go.Proofs.Ytgamcclfdkpcgaa

set_option linter.unusedVariables false
set_option linter.unusedSimpArgs false
set_option maxRecDepth 10000
namespace Go.Proofs.Ytgamcclfdkpcgaa
open Go Go.Am Go.RowKit

variable {h h' : Hp} {K : AV → Hp → Prop}

/-! ### The reference's -/
/-! ### Comparing -/
def lessP (p q : Int × Int) : Bool := decide (p.1 * q.2 < q.1 * p.2)
theorem f20_con (p q : Int × Int) (h1 : -big ≤ p.1 * q.2 ∧ p.1 * q.2 ≤ big) (h2 : -big ≤ q.1 * p.2 ∧ q.1 * p.2 ≤ big) : Con Try.prog cfg 20 [FR p, FR q] (.bool (lessP p q)) := by
  have hal : ∀ (g : Hp) (x y : Int), allocB g (some (.agg [I x, I y])) = some (.ptr g.nx 0, g.alloc (.cells false false [I x, I y])) := fun g x y => allocB_agg _ rfl
  simp only [big] at h1 h2
  rw [lessP]
  refine Con_intro Try.func20 rfl ok20 (Nat.le_of_ble_eq_true rfl) rfl ?_
  simp only [Try.f20, Option.getD_some, initSt2]
  simp (disch := first | (simp only [go_sem, gb0, eq_self]; done) | omega | (simp only [gl1, gl2]; omega)) only [go_sem, ↓reduceIte, Nat.reduceEqDiff, Nat.reduceAdd, Nat.reduceMul, Nat.reduceSub, Int.reduceToNat, Nat.reduceBEq, hal]
def cmpP (p q : Int × Int) : Int := if p.1 * q.2 < q.1 * p.2 then -1 else if q.1 * p.2 < p.1 * q.2 then 1 else 0
theorem f52_con (p q : Int × Int) (h1 : -big ≤ p.1 * q.2 ∧ p.1 * q.2 ≤ big) (h2 : -big ≤ q.1 * p.2 ∧ q.1 * p.2 ≤ big) : Con Try.prog cfg 52 [FR p, FR q] (I (cmpP p q)) := by
  have hal : ∀ (g : Hp) (x y : Int), allocB g (some (.agg [I x, I y])) = some (.ptr g.nx 0, g.alloc (.cells false false [I x, I y])) := fun g x y => allocB_agg _ rfl
  simp only [big] at h1 h2
  by_cases c1 : p.1 * q.2 < q.1 * p.2
  · have hr : cmpP p q = -1 := by simp [cmpP, c1]
    rw [hr]
    refine Con_intro Try.func52 rfl ok52 (Nat.le_of_ble_eq_true rfl) rfl ?_
    simp only [Try.f52, Option.getD_some, initSt2]
    simp (disch := first | (simp only [go_sem, gb0, eq_self]; done) | omega | (simp only [gl1, gl2]; omega)) only [go_sem, ↓reduceIte, Nat.reduceEqDiff, Nat.reduceAdd, Nat.reduceMul, Nat.reduceSub, Int.reduceToNat, Nat.reduceBEq, hal, c1]
  by_cases c2 : q.1 * p.2 < p.1 * q.2
  · have hr : cmpP p q = 1 := by simp [cmpP, c1, c2]
    rw [hr]
    refine Con_intro Try.func52 rfl ok52 (Nat.le_of_ble_eq_true rfl) rfl ?_
    simp only [Try.f52, Option.getD_some, initSt2]
    simp (disch := first | (simp only [go_sem, gb0, eq_self]; done) | omega | (simp only [gl1, gl2]; omega)) only [go_sem, ↓reduceIte, Nat.reduceEqDiff, Nat.reduceAdd, Nat.reduceMul, Nat.reduceSub, Int.reduceToNat, Nat.reduceBEq, hal, c1, c2]
  · have hr : cmpP p q = 0 := by simp [cmpP, c1, c2]
    rw [hr]
    refine Con_intro Try.func52 rfl ok52 (Nat.le_of_ble_eq_true rfl) rfl ?_
    simp only [Try.f52, Option.getD_some, initSt2]
    simp (disch := first | (simp only [go_sem, gb0, eq_self]; done) | omega | (simp only [gl1, gl2]; omega)) only [go_sem, ↓reduceIte, Nat.reduceEqDiff, Nat.reduceAdd, Nat.reduceMul, Nat.reduceSub, Int.reduceToNat, Nat.reduceBEq, hal, c1, c2]
end Go.Proofs.Ytgamcclfdkpcgaa

set_option linter.unusedVariables false
set_option linter.unusedSimpArgs false
set_option maxRecDepth 10000
namespace Go.Proofs.Ytgamcclfdkpcgaa
open Go Go.Am

variable {h h' : Hp} {K : AV → Hp → Prop}

@[go_sem] theorem und77 : Try.prog.underlying 77 = some (.int .u64) := Try.underlying77
def modI (x n : Int) : Int := x % 18446744073709551616 % n
theorem modI_bounds (x : Int) {n : Int} (hn : 0 < n) : 0 ≤ modI x n ∧ modI x n < n := ⟨Int.emod_nonneg _ (by omega), Int.emod_lt_of_pos _ hn⟩
theorem f18_con (x n : Int) (hn : 0 < n ∧ n ≤ 9223372036854775807) : Con Try.prog cfg 18 [I x, I n] (I (modI x n)) := by
  have hw : ∀ y, IntKind.wrap .u64 y = y % 18446744073709551616 := fun y => rfl
  have hn2 : n % 18446744073709551616 = n := Int.emod_eq_of_lt (by omega) (by omega)
  have hx := Int.emod_nonneg x (b := 18446744073709551616) (by decide)
  have ht : (x % 18446744073709551616).tmod n = modI x n := by rw [modI, Int.tmod_eq_emod_of_nonneg hx]
  have hb := modI_bounds x hn.1
  have hne : ¬ n = 0 := by omega
  refine Con_intro Try.func18 rfl ok18 (Nat.le_of_ble_eq_true rfl) rfl ?_
  simp only [Try.f18, Option.getD_some, initSt2]
  simp (disch := first | (simp only [go_sem, gb0, eq_self]; done) | omega | (simp only [gl1, gl2]; omega)) only [go_sem, ↓reduceIte, Nat.reduceEqDiff, Nat.reduceAdd, Nat.reduceMul, Nat.reduceSub, Int.reduceToNat, Nat.reduceBEq, hw, hn2, ht, hne]
theorem f36_con (l : List Int) (hl : l.length ≤ maxLen) (j : Nat) : Con Try.prog cfg 36 [LI l, I j] (I (nth l j)) := by
  have ml : maxLen = 9223372036854775807 := by decide
  by_cases hlt : j < l.length
  · have hlt' : (j : Int) < l.length := by omega
    refine Con_intro Try.func36 rfl ok36 (Nat.le_of_ble_eq_true rfl) rfl ?_
    simp only [Try.f36, Option.getD_some, initSt2]
    simp (disch := first | (simp only [go_sem, gb0, eq_self]; done) | omega | (simp only [gl1, gl2]; omega)) only [go_sem, ↓reduceIte, Nat.reduceEqDiff, Nat.reduceAdd, Nat.reduceMul, Nat.reduceSub, Int.reduceToNat, Nat.reduceBEq, hlt, hlt']
  · have hd : nth l j = 0 := by rw [nth, List.getElem?_eq_none (by omega)]; rfl
    have hlt' : ¬ (j : Int) < l.length := by omega
    rw [hd]
    refine Con_intro Try.func36 rfl ok36 (Nat.le_of_ble_eq_true rfl) rfl ?_
    simp only [Try.f36, Option.getD_some, initSt2]
    simp (disch := first | (simp only [go_sem, gb0, eq_self]; done) | omega | (simp only [gl1, gl2]; omega)) only [go_sem, ↓reduceIte, Nat.reduceEqDiff, Nat.reduceAdd, Nat.reduceMul, Nat.reduceSub, Int.reduceToNat, Nat.reduceBEq, hlt, hlt']
end Go.Proofs.Ytgamcclfdkpcgaa

set_option linter.unusedVariables false
set_option linter.unusedSimpArgs false
set_option maxRecDepth 10000
namespace Go.Proofs.Ytgamcclfdkpcgaa
open Go Go.Am

def sumO (o : List (Int × Int)) (F : Int × Int → Int) : Int := sumN (fun i => F (nth o i)) o.length
theorem sumN_le {f g : Nat → Int} : ∀ {n : Nat}, (∀ i, i < n → f i ≤ g i) → sumN f n ≤ sumN g n
  | 0, _ => Int.le_refl _
  | n + 1, h => Int.add_le_add (sumN_le fun i hi => h i (by omega)) (h n (by omega))
theorem sumN_add (f g : Nat → Int) : ∀ n, sumN (fun i => f i + g i) n = sumN f n + sumN g n
  | 0 => rfl
  | n + 1 => by simp only [sumN, sumN_add f g n]; omega
theorem sumN_mul (c : Int) (f : Nat → Int) : ∀ n, sumN (fun i => c * f i) n = c * sumN f n
  | 0 => by simp [sumN]
  | n + 1 => by simp only [sumN, sumN_mul c f n, Int.mul_add]
theorem sumN_zero : ∀ n, sumN (fun _ => 0) n = 0
  | 0 => rfl
  | n + 1 => by simp [sumN, sumN_zero n]
/-- An offer. -/
structure OffOK (o : List (Int × Int)) : Prop where
  x : ∀ q ∈ o, (0 ≤ q.1 ∧ q.1 ≤ 1000) ∧ (1 ≤ q.2 ∧ q.2 ≤ 16)
  len : o.length ≤ 8
  sum : sumO o (fun q => q.2) = 16

/-! ### The prophet's inequality -/
/-! ### The reference's way to the greatest -/
end Go.Proofs.Ytgamcclfdkpcgaa

set_option linter.unusedVariables false
set_option linter.unusedSimpArgs false
set_option maxRecDepth 10000
namespace Go.Proofs.Ytgamcclfdkpcgaa
open Go Go.Am

abbrev Mat := Nat → Nat → Int
def sg (j : Nat) : Int := if j % 2 = 0 then 1 else -1
theorem sg_succ (j : Nat) : sg (j + 1) = - sg j := by
  unfold sg
  by_cases h : j % 2 = 0
  · rw [if_pos h, if_neg (by omega)]
  · rw [if_neg h, if_pos (by omega)]; rfl
/-- The number of a column once column j is gone. -/
def skp (j c : Nat) : Nat := if c < j then c else c + 1
def minorM (M : Mat) (j : Nat) : Mat := fun r c => M (r + 1) (skp j c)
def det : Nat → Mat → Int
  | 0, _ => 1
  | n + 1, M => sumN (fun j => sg j * M 0 j * det n (minorM M j)) (n + 1)
theorem skp_ne (j c : Nat) : skp j c ≠ j := by unfold skp; split <;> omega
theorem skp_lt {j c n : Nat} (hc : c < n) : skp j c < n + 1 := by unfold skp; split <;> omega
theorem det_congr {n : Nat} : ∀ {M N : Mat}, (∀ r c, r < n → c < n → M r c = N r c) → det n M = det n N := by
  induction n with
  | zero => intro M N h; rfl
  | succ n ih =>
    intro M N h
    refine sumN_congr fun j hj => ?_
    show sg j * M 0 j * det n (minorM M j) = sg j * N 0 j * det n (minorM N j)
    rw [h 0 j (by omega) hj, show det n (minorM M j) = det n (minorM N j) from ih fun r c hr hc => h (r + 1) (skp j c) (by omega) (skp_lt hc)]
/-- Column k replaced. -/
def colU (M : Mat) (k : Nat) (v : Nat → Int) : Mat := fun r c => if c = k then v r else M r c
theorem colU_eq (M : Mat) (k : Nat) : colU M k (fun r => M r k) = M := by
  funext r c; unfold colU; split
  · rename_i h; rw [h]
  · rfl
theorem colU_comm (M : Mat) {j k : Nat} (h : j ≠ k) (u v : Nat → Int) : colU (colU M j u) k v = colU (colU M k v) j u := by
  funext r c; unfold colU
  by_cases h1 : c = k
  · by_cases h2 : c = j
    · omega
    · simp [h1, h2]; omega
  · simp [h1]
theorem minor_self (M : Mat) (k : Nat) (v : Nat → Int) : minorM (colU M k v) k = minorM M k := by
  funext r c; unfold minorM colU; rw [if_neg (skp_ne k c)]
/-- Where column k is, once column j is gone. -/
def unskp (j k : Nat) : Nat := if k < j then k else k - 1
theorem skp_eq {j k c : Nat} (h : j ≠ k) : skp j c = k ↔ c = unskp j k := by
  unfold skp unskp
  constructor
  · intro e
    by_cases h1 : c < j
    · rw [if_pos h1] at e; subst e; rw [if_pos h1]
    · rw [if_neg h1] at e; subst e; rw [if_neg (by omega)]; omega
  · intro e
    by_cases h1 : k < j
    · rw [if_pos h1] at e; subst e; rw [if_pos h1]
    · rw [if_neg h1] at e; subst e; rw [if_neg (by omega)]; omega
theorem minor_other (M : Mat) {j k : Nat} (h : j ≠ k) (v : Nat → Int) : minorM (colU M k v) j = colU (minorM M j) (unskp j k) (fun r => v (r + 1)) := by
  funext r c; unfold minorM colU
  by_cases h1 : skp j c = k
  · rw [if_pos h1, if_pos ((skp_eq h).1 h1)]
  · rw [if_neg h1, if_neg fun e => h1 ((skp_eq h).2 e)]
theorem unskp_lt {j k n : Nat} (h : j ≠ k) (hj : j < n + 1) (hk : k < n + 1) : unskp j k < n := by unfold unskp; split <;> omega
/-- A determinant is linear in each column. -/
theorem det_lin {n : Nat} : ∀ (M : Mat) {k : Nat}, k < n → ∀ (a b : Int) (u v : Nat → Int), det n (colU M k fun r => a * u r + b * v r) = a * det n (colU M k u) + b * det n (colU M k v) := by
  induction n with
  | zero => intro M k hk; omega
  | succ n ih =>
    intro M k hk a b u v
    simp only [det]
    rw [← sumN_mul, ← sumN_mul, ← sumN_add]
    refine sumN_congr fun j hj => ?_
    by_cases h : j = k
    · subst h
      simp only [minor_self]
      simp only [colU, if_true]
      grind
    · simp only [minor_other M h]
      rw [ih (minorM M j) (unskp_lt h hj hk) a b (fun r => u (r + 1)) (fun r => v (r + 1))]
      simp only [colU, if_neg h]
      grind
theorem sumN_two {f : Nat → Int} {p : Nat} : ∀ {n : Nat}, p + 1 < n → (∀ j, j < n → j ≠ p → j ≠ p + 1 → f j = 0) → f p + f (p + 1) = 0 → sumN f n = 0 := by
  intro n
  induction n with
  | zero => intro h; omega
  | succ n ih =>
    intro hp h0 h2
    rw [sumN]
    by_cases h : p + 1 < n
    · rw [ih h (fun j hj => h0 j (by omega)) h2, h0 n (by omega) (by omega) (by omega)]; rfl
    · obtain rfl : n = p + 1 := by omega
      rw [sumN]
      have : sumN f p = 0 := by
        have := sumN_congr (f := f) (g := fun _ => 0) (n := p) fun j hj => h0 j (by omega) (by omega) (by omega)
        rw [this, sumN_zero]
      omega
theorem det_adj {n : Nat} : ∀ {M : Mat} {p : Nat}, p + 1 < n → (∀ r, r < n → M r p = M r (p + 1)) → det n M = 0 := by
  induction n with
  | zero => intro M p hp; omega
  | succ n ih =>
    intro M p hp h
    refine sumN_two hp (fun j hj h1 h2 => ?_) ?_
    · have hz : det n (minorM M j) = 0 := by
        have hle : p < j ∨ j < p := by omega
        rcases hle with hle | hle
        · refine ih (p := p) (by omega) fun r hr => ?_
          show M (r + 1) (skp j p) = M (r + 1) (skp j (p + 1))
          rw [skp, if_pos hle, skp, if_pos (by omega)]; exact h _ (by omega)
        · refine ih (p := p - 1) (by omega) fun r hr => ?_
          show M (r + 1) (skp j (p - 1)) = M (r + 1) (skp j (p - 1 + 1))
          rw [skp, if_neg (by omega), skp, if_neg (by omega), show p - 1 + 1 = p by omega]; exact h _ (by omega)
      rw [hz, Int.mul_zero]
    · have hm : det n (minorM M p) = det n (minorM M (p + 1)) := det_congr fun r c hr hc => by
        show M (r + 1) (skp p c) = M (r + 1) (skp (p + 1) c)
        by_cases h1 : c < p
        · rw [skp, if_pos h1, skp, if_pos (by omega)]
        · by_cases h2 : c = p
          · subst h2; rw [skp, if_neg (by omega), skp, if_pos (by omega)]; exact (h _ (by omega)).symm
          · rw [skp, if_neg h1, skp, if_neg (by omega)]
      rw [hm, h 0 (by omega), sg_succ]; grind
theorem det_swap {n : Nat} (M : Mat) {p : Nat} (hp : p + 1 < n) (u v : Nat → Int) : det n (colU (colU M p u) (p + 1) v) = - det n (colU (colU M p v) (p + 1) u) := by
  have hne : p ≠ p + 1 := by omega
  have z : ∀ x : Nat → Int, det n (colU (colU M p x) (p + 1) x) = 0 := fun x => det_adj hp fun r _ => by simp [colU]
  have h0 := z fun r => 1 * u r + 1 * v r
  rw [det_lin _ hp, colU_comm M hne, colU_comm M hne, det_lin _ (by omega), det_lin _ (by omega), ← colU_comm M hne, ← colU_comm M hne, ← colU_comm M hne, ← colU_comm M hne, z u, z v] at h0
  omega
/-- Two columns alike. -/
theorem det_same {n : Nat} : ∀ {d : Nat} {M : Mat} {p : Nat}, p + d + 1 < n → (∀ r, r < n → M r p = M r (p + d + 1)) → det n M = 0 := by
  intro d
  induction d with
  | zero => intro M p hp h; exact det_adj hp h
  | succ d ih =>
    intro M p hp h
    have e : M = colU (colU M (p + d + 1) fun r => M r (p + d + 1)) (p + d + 1 + 1) fun r => M r (p + d + 1 + 1) := by
      rw [colU_eq, colU_eq]
    rw [e, det_swap M (by omega)]
    rw [ih (p := p) (by omega) fun r hr => by
      simp only [colU, show ¬ p = p + d + 1 + 1 by omega, show ¬ p = p + d + 1 by omega, show ¬ p + d + 1 = p + d + 1 + 1 by omega, if_false, if_true]
      exact h r hr]
    rfl
theorem det_eqcol {n : Nat} {M : Mat} {p q : Nat} (hp : p < n) (hq : q < n) (hne : p ≠ q) (h : ∀ r, r < n → M r p = M r q) : det n M = 0 := by
  rcases Nat.lt_or_gt_of_ne hne with hl | hl
  · obtain ⟨d, rfl⟩ : ∃ d, q = p + d + 1 := ⟨q - p - 1, by omega⟩
    exact det_same hq h
  · obtain ⟨d, rfl⟩ : ∃ d, p = q + d + 1 := ⟨p - q - 1, by omega⟩
    exact det_same hp fun r hr => (h r hr).symm
/-- Cramer's rule. -/
theorem det_comb {n : Nat} (M : Mat) {k : Nat} (hk : k < n) (c : Nat → Int) (u : Nat → Nat → Int) : ∀ m, det n (colU M k fun r => sumN (fun j => c j * u j r) m) = sumN (fun j => c j * det n (colU M k (u j))) m
  | 0 => by
    have := det_lin M hk 0 0 (fun _ => 0) (fun _ => 0)
    simp only [Int.zero_mul, Int.add_zero] at this
    exact this
  | m + 1 => by
    have := det_lin M hk 1 (c m) (fun r => sumN (fun j => c j * u j r) m) (u m)
    rw [det_comb M hk c u m] at this
    simp only [Int.one_mul] at this
    simp only [sumN]
    exact this
theorem sumN_single {f : Nat → Int} {k : Nat} : ∀ {n : Nat}, k < n → (∀ j, j < n → j ≠ k → f j = 0) → sumN f n = f k := by
  intro n
  induction n with
  | zero => intro h; omega
  | succ n ih =>
    intro hk h0
    rw [sumN]
    by_cases h : k < n
    · rw [ih h fun j hj => h0 j (by omega), h0 n (by omega) (by omega), Int.add_zero]
    · obtain rfl : n = k := by omega
      have := sumN_congr (f := f) (g := fun _ => 0) (n := n) fun j hj => h0 j (by omega) (by omega)
      rw [this, sumN_zero, Int.zero_add]
theorem cramer {n : Nat} (M : Mat) {k : Nat} (hk : k < n) (v : Nat → Int) (b : Nat → Int) (h : ∀ r, r < n → sumN (fun j => M r j * v j) n = b r) : det n (colU M k b) = v k * det n M := by
  have e : det n (colU M k b) = det n (colU M k fun r => sumN (fun j => v j * M r j) n) := det_congr fun r c hr hc => by
    unfold colU
    split
    · rw [← h r hr]; exact sumN_congr fun j _ => Int.mul_comm _ _
    · rfl
  rw [e, det_comb M hk v (fun j r => M r j) n, sumN_single hk fun j hj hne => ?_]
  · show v k * det n (colU M k fun r => M r k) = _
    rw [colU_eq]
  · show v j * det n (colU M k fun r => M r j) = 0
    rw [det_eqcol hk hj (Ne.symm hne) fun r hr => by simp [colU, hne], Int.mul_zero]
/-- A row of which one column is all that matters. -/
theorem det_clear {n : Nat} (M N : Mat) {i : Nat} (hi : i < n) (h1 : ∀ r, r < n → M r i = if r = i then 1 else 0) (h2 : ∀ r c, r < n → c < n → r ≠ i → M r c = N r c) (h3 : ∀ r, r < n → N r i = if r = i then 1 else 0) : det n M = det n N := by
  have key : ∀ m, m ≤ n → det n M = det n (fun r c => if r = i ∧ c < m then N r c else M r c) := by
    intro m
    induction m with
    | zero => intro _; exact det_congr fun r c _ _ => by simp
    | succ m ih =>
      intro hm
      rw [ih (by omega)]
      by_cases hmi : m = i
      · refine det_congr fun r c hr hc => ?_
        by_cases hri : r = i
        · by_cases hcm : c = m
          · subst hcm; subst hri; subst hmi
            simp only [Nat.lt_irrefl, and_false, if_false, Nat.lt_succ_self, and_self, if_true]
            rw [h1 _ hr, h3 _ hr]
          · have : (c < m) ↔ (c < m + 1) := by omega
            simp [hri, this]
        · simp [hri]
      · have hA : ∀ A : Mat, (∀ r, r < n → A r i = if r = i then 1 else 0) → ∀ t : Int, det n (colU A m fun r => A r m + t * A r i) = det n A := by
          intro A hA t
          have := det_lin A (show m < n by omega) 1 t (fun r => A r m) (fun r => A r i)
          rw [colU_eq, det_eqcol (M := colU A m fun r => A r i) (show m < n by omega) hi hmi (fun r hr => by simp [colU, Ne.symm hmi])] at this
          simp only [Int.one_mul, Int.mul_zero, Int.add_zero] at this
          exact this
        have hcol : ∀ r, r < n → (fun r c => if r = i ∧ c < m then N r c else M r c : Mat) r i = if r = i then 1 else 0 := fun r hr => by
          simp only
          split
          · exact h3 r hr
          · exact h1 r hr
        rw [← hA _ hcol (N i m - M i m)]
        refine det_congr fun r c hr hc => ?_
        unfold colU
        by_cases hcm : c = m
        · subst hcm
          by_cases hri : r = i
          · subst hri
            have : (if r = r ∧ r < c then N r r else M r r) = 1 := by
              have a1 := h1 r hr
              have a3 := h3 r hr
              rw [if_pos rfl] at a1 a3
              split
              · exact a3
              · exact a1
            rw [if_pos rfl]
            show (if r = r ∧ c < c then N r c else M r c) + (N r c - M r c) * (if r = r ∧ r < c then N r r else M r r) = (if r = r ∧ c < c + 1 then N r c else M r c)
            rw [this, if_neg (fun h => by omega), if_pos ⟨rfl, by omega⟩]; omega
          · have hz : M r i = 0 := by rw [h1 r hr, if_neg hri]
            simp [hri, hz]
        · have : (c < m) ↔ (c < m + 1) := by omega
          simp [hcm, this]
  rw [key n (Nat.le_refl _)]
  refine det_congr fun r c hr hc => ?_
  by_cases hri : r = i
  · simp [hri, hc]
  · simp [hri, h2 r c hr hc hri]
def oneM : Mat := fun r c => if r = c then 1 else 0
theorem det_one : ∀ n, det n oneM = 1
  | 0 => rfl
  | n + 1 => by
    rw [det, sumN_single (k := 0) (by omega) fun j hj hne => by simp [oneM, Ne.symm hne]]
    have : minorM oneM 0 = oneM := by funext r c; simp [minorM, oneM, skp]
    rw [this, det_one n]; rfl

/-! ### Bounds -/
theorem sumN_skp (f : Nat → Int) {j : Nat} : ∀ {n : Nat}, j ≤ n → sumN (fun c => f (skp j c)) n + f j = sumN f (n + 1) := by
  intro n
  induction n with
  | zero => intro h; obtain rfl : j = 0 := by omega
            simp [sumN]
  | succ n ih =>
    intro h
    by_cases hj : j ≤ n
    · have e : skp j n = n + 1 := by rw [skp, if_neg (by omega)]
      have := ih hj
      rw [sumN, e]
      show _ = sumN f (n + 1) + f (n + 1)
      omega
    · obtain rfl : j = n + 1 := by omega
      have : sumN (fun c => f (skp (n + 1) c)) (n + 1) = sumN f (n + 1) := sumN_congr fun c hc => by rw [skp, if_pos hc]
      rw [this]; rfl
def absI (x : Int) : Int := x.natAbs
theorem absI_mul (x y : Int) : absI (x * y) = absI x * absI y := by simp [absI, Int.natAbs_mul]
theorem absI_nonneg (x : Int) : 0 ≤ absI x := Int.natCast_nonneg _
theorem absI_sum (f : Nat → Int) : ∀ n, absI (sumN f n) ≤ sumN (fun j => absI (f j)) n
  | 0 => by simp [sumN, absI]
  | n + 1 => by
    have := absI_sum f n
    simp only [sumN]
    unfold absI at *
    omega
theorem sumN_mono {f : Nat → Int} {m n : Nat} (h : ∀ i, 0 ≤ f i) (hmn : m ≤ n) : sumN f m ≤ sumN f n := by
  obtain ⟨d, rfl⟩ : ∃ d, n = m + d := ⟨n - m, by omega⟩
  clear hmn
  induction d with
  | zero => exact Int.le_refl _
  | succ d ih =>
    rw [← Nat.add_assoc, sumN]
    have := h (m + d)
    omega
/-- Partial sums of the expansion are bounded as well. -/
theorem det_part {n : Nat} {B : Int} (hB : 0 ≤ B) (M : Mat) (h0 : sumN (fun c => absI (M 0 c)) (n + 1) ≤ B) (hm : ∀ j, j < n + 1 → absI (det n (minorM M j)) ≤ B ^ n) :
    ∀ m, m ≤ n + 1 → absI (sumN (fun j => sg j * M 0 j * det n (minorM M j)) m) ≤ B ^ (n + 1) := by
  intro m hmn
  have hp : 0 ≤ B ^ n := Int.pow_nonneg hB
  refine Int.le_trans (absI_sum _ _) ?_
  have h1 : sumN (fun j => absI (sg j * M 0 j * det n (minorM M j))) m ≤ sumN (fun j => B ^ n * absI (M 0 j)) m := sumN_le fun j hj => by
    rw [absI_mul, absI_mul]
    have : absI (sg j) = 1 := by unfold absI sg; split <;> rfl
    rw [this, Int.one_mul, Int.mul_comm]
    exact Int.mul_le_mul_of_nonneg_right (hm j (by omega)) (absI_nonneg _)
  rw [sumN_mul] at h1
  have h2 := sumN_mono (f := fun c => absI (M 0 c)) (fun i => absI_nonneg _) hmn
  have h3 : B ^ n * sumN (fun j => absI (M 0 j)) m ≤ B ^ n * B := Int.mul_le_mul_of_nonneg_left (by omega) hp
  rw [Int.pow_succ]
  omega
theorem det_bound {n : Nat} {B : Int} (hB : 0 ≤ B) : ∀ (M : Mat), (∀ r, r < n → sumN (fun c => absI (M r c)) n ≤ B) → absI (det n M) ≤ B ^ n := by
  induction n with
  | zero => intro M h; simp [det, absI]
  | succ n ih =>
    intro M h
    refine det_part hB M (h 0 (by omega)) (fun j hj => ih _ fun r hr => ?_) (n + 1) (Nat.le_refl _)
    have := sumN_skp (fun c => absI (M (r + 1) c)) (j := j) (n := n) (by omega)
    have h1 := h (r + 1) (by omega)
    have h2 := absI_nonneg (M (r + 1) j)
    show sumN (fun c => absI (M (r + 1) (skp j c))) n ≤ B
    omega
/-- A column of numbers up to C. -/
theorem det_bound_col {n : Nat} {B C : Int} (hB : 0 ≤ B) (hC : 0 ≤ C) (M : Mat) {k : Nat} (hk : k < n) (v : Nat → Int) (h : ∀ r, r < n → sumN (fun c => absI (M r c)) n ≤ B) (hv : ∀ r, r < n → absI (v r) ≤ C) :
    absI (det n (colU M k v)) ≤ n * (C * (B + 1) ^ n) := by
  have e : det n (colU M k v) = det n (colU M k fun r => sumN (fun j => v j * (if r = j then 1 else 0)) n) := det_congr fun r c hr hc => by
    unfold colU
    split
    · show v r = sumN (fun j => v j * if r = j then 1 else 0) n
      rw [sumN_single hr fun j hj hne => by rw [if_neg (Ne.symm hne), Int.mul_zero]]; simp
    · rfl
  rw [e, det_comb M hk v (fun j r => if r = j then 1 else 0) n]
  refine Int.le_trans (absI_sum _ _) ?_
  have hp : 0 ≤ (B + 1) ^ n := Int.pow_nonneg (by omega)
  have h1 := sumN_le (f := fun j => absI (v j * det n (colU M k fun r => if r = j then 1 else 0))) (g := fun _ => C * (B + 1) ^ n) (n := n) fun j hj => by
    rw [absI_mul]
    refine Int.mul_le_mul (hv j hj) (det_bound (by omega) _ fun r hr => ?_) (absI_nonneg _) hC
    have h2 : sumN (fun c => absI (colU M k (fun r => if r = j then 1 else 0) r c)) n ≤ sumN (fun c => absI (M r c) + (if c = k then 1 else 0)) n := sumN_le fun c hc => by
      unfold colU
      have := absI_nonneg (M r c)
      by_cases hck : c = k
      · rw [if_pos hck, if_pos hck]
        refine Int.le_trans (b := 1) ?_ (by omega)
        show absI (if r = j then 1 else 0) ≤ 1
        split <;> decide
      · rw [if_neg hck, if_neg hck]; omega
    rw [sumN_add, sumN_single hk fun c hc hne => if_neg hne, if_pos rfl] at h2
    have := h r hr
    omega
  have h3 : sumN (fun _ => C * (B + 1) ^ n) n = n * (C * (B + 1) ^ n) := by
    have : ∀ m : Nat, sumN (fun _ => C * (B + 1) ^ n) m = m * (C * (B + 1) ^ n) := by
      intro m
      induction m with
      | zero => simp [sumN]
      | succ m ih => rw [sumN, ih]; grind
    exact this n
  omega
end Go.Proofs.Ytgamcclfdkpcgaa

set_option linter.unusedVariables false
set_option linter.unusedSimpArgs false
set_option maxRecDepth 10000
namespace Go.Proofs.Ytgamcclfdkpcgaa
open Go Go.Am

theorem rdP_pos {a b : Int} (hb : 0 < b) : rdP a b = (a / gcdI a b, b / gcdI a b) := by rw [rdP, if_neg (by omega)]
theorem rdP_neg {a b : Int} (hb : b ≠ 0) : rdP (-a) (-b) = rdP a b := by
  unfold rdP
  rw [gcdI_neg]
  rcases Int.lt_or_gt_of_ne hb with h | h
  · rw [if_neg (by omega), if_pos h]
  · rw [if_pos (by omega), if_neg (by omega), Int.neg_neg, Int.neg_neg]
theorem rdP_scale {k : Int} (hk : 0 < k) (a b : Int) (hb : 0 < b) : rdP (k * a) (k * b) = rdP a b := by
  have hg := gcdI_pos (a := a) (b := b) (by omega)
  have e : gcdI (k * a) (k * b) = k * gcdI a b := by
    unfold gcdI
    rw [Int.gcd_mul_left]
    simp only [Int.natCast_mul]
    congr 1; omega
  rw [rdP_pos (Int.mul_pos hk hb), rdP_pos hb, e, Int.mul_ediv_mul_of_pos _ _ hk, Int.mul_ediv_mul_of_pos _ _ hk]
/-- Two fractions that are equal are reduced to the same. -/
theorem rdP_cross {a b c d : Int} (hb : 0 < b) (hd : 0 < d) (h : a * d = c * b) : rdP a b = rdP c d := by
  rw [← rdP_scale hd a b hb, ← rdP_scale hb c d hd, Int.mul_comm d a, h, Int.mul_comm c b, Int.mul_comm d b]
theorem gcdI_dvd (a b : Int) : gcdI a b ∣ a ∧ gcdI a b ∣ b := ⟨Int.gcd_dvd_left a b, Int.gcd_dvd_right a b⟩
/-- A reduced fraction is the same fraction. -/
theorem rdP_val {a b : Int} (hb : 0 < b) : (rdP a b).1 * b = a * (rdP a b).2 := by
  have hg := gcdI_pos (a := a) (b := b) (by omega)
  rw [rdP_pos hb]
  obtain ⟨k, hk⟩ := (gcdI_dvd a b).1
  obtain ⟨m, hm⟩ := (gcdI_dvd a b).2
  generalize gcdI a b = g at *
  subst hk hm
  show g * k / g * (g * m) = g * k * (g * m / g)
  rw [Int.mul_ediv_cancel_left _ (by omega), Int.mul_ediv_cancel_left _ (by omega)]
  grind
theorem rdP_den {a b : Int} (hb : 0 < b) : 0 < (rdP a b).2 ∧ (rdP a b).2 ≤ b := by
  have hg := gcdI_pos (a := a) (b := b) (by omega)
  rw [rdP_pos hb]
  obtain ⟨m, hm⟩ := (gcdI_dvd a b).2
  show 0 < b / gcdI a b ∧ b / gcdI a b ≤ b
  exact ⟨Int.ediv_pos_of_pos_of_dvd hb (by omega) (gcdI_dvd a b).2, Int.ediv_le_self _ (by omega)⟩
theorem rdP_one (a : Int) : rdP a 1 = (a, 1) := by
  have : gcdI a 1 = 1 := by unfold gcdI; simp
  rw [rdP_pos (by decide), this]; simp
def lessQ (p q : Int × Int) : Prop := p.1 * q.2 < q.1 * p.2
theorem lessP_rd {a b c d : Int} (hb : 0 < b) (hd : 0 < d) : lessQ (rdP a b) (rdP c d) ↔ a * d < c * b := by
  have h1 := rdP_val (a := a) hb
  have h2 := rdP_val (a := c) hd
  have h3 := rdP_den (a := a) hb
  have h4 := rdP_den (a := c) hd
  generalize rdP a b = p at *
  generalize rdP c d = q at *
  unfold lessQ
  have hbd : 0 < b * d := Int.mul_pos hb hd
  have hpq : 0 < p.2 * q.2 := Int.mul_pos h3.1 h4.1
  have e1 : (p.1 * q.2) * (b * d) = (a * d) * (p.2 * q.2) := by grind
  have e2 : (q.1 * p.2) * (b * d) = (c * b) * (p.2 * q.2) := by grind
  constructor
  · intro h
    have := Int.mul_lt_mul_of_pos_right h hbd
    rw [e1, e2] at this
    exact Int.lt_of_mul_lt_mul_right this (Int.le_of_lt hpq)
  · intro h
    have := Int.mul_lt_mul_of_pos_right h hpq
    rw [← e1, ← e2] at this
    exact Int.lt_of_mul_lt_mul_right this (Int.le_of_lt hbd)
theorem rdP_whole (x : Int) {D : Int} (hD : 0 < D) : rdP (x * D) D = (x, 1) := by
  rw [← rdP_one x]; exact rdP_cross hD (by decide) (by omega)
end Go.Proofs.Ytgamcclfdkpcgaa

set_option linter.unusedVariables false
set_option linter.unusedSimpArgs false
set_option maxRecDepth 10000
namespace Go.Proofs.Ytgamcclfdkpcgaa
open Go Go.Am

theorem nn_of_mul {a x : Int} (ha : 0 < a) (h : 0 ≤ a * x) : 0 ≤ x := Int.le_of_mul_le_mul_left (by rw [Int.mul_zero]; exact h) ha
theorem pos_of_mul {a x : Int} (ha : 0 < a) (h : 0 < a * x) : 0 < x := Int.lt_of_mul_lt_mul_left (by rw [Int.mul_zero]; exact h) (Int.le_of_lt ha)
theorem np_of_mul {a x : Int} (ha : 0 < a) (h : a * x ≤ 0) : x ≤ 0 := Int.le_of_mul_le_mul_left (by rw [Int.mul_zero]; exact h) ha
/-! ### One row -/
def elimR (row by_ : Nat → Int) (c k : Nat) : Int := row k * (by_ c / gcdI (row c) (by_ c)) - by_ k * (row c / gcdI (row c) (by_ c))
def allG (f : Nat → Int) : Nat → Int
  | 0 => 0
  | m + 1 => gcdI (allG f m) (f m)
def elimP (row by_ : Nat → Int) (c n k : Nat) : Int := if 1 < allG (elimR row by_ c) (n + 1) then elimR row by_ c k / allG (elimR row by_ c) (n + 1) else elimR row by_ c k
def stepE (n c : Nat) (X : Mat) : Mat := fun i k => if i = c ∨ X i c = 0 then X i k else elimP (X i) (X c) c n k
def XE (n : Nat) (M : Mat) : Nat → Mat
  | 0 => M
  | c + 1 => stepE n c (XE n M c)
theorem allG_nonneg (f : Nat → Int) : ∀ m, 0 ≤ allG f m
  | 0 => Int.le_refl _
  | m + 1 => gcdI_nonneg _ _
theorem allG_dvd (f : Nat → Int) : ∀ m k, k < m → allG f m ∣ f k
  | 0, k, h => by omega
  | m + 1, k, h => by
    rw [allG]
    by_cases hk : k = m
    · subst hk; exact (gcdI_dvd _ _).2
    · exact Int.dvd_trans (gcdI_dvd _ _).1 (allG_dvd f m k (by omega))
theorem dvd_allG (f : Nat → Int) (d : Int) : ∀ m, (∀ k, k < m → d ∣ f k) → d ∣ allG f m
  | 0, _ => ⟨0, by simp [allG]⟩
  | m + 1, h => by
    rw [allG]
    unfold gcdI
    exact Int.dvd_coe_gcd (dvd_allG f d m fun k hk => h k (by omega)) (h m (by omega))
def Prim (n : Nat) (f : Nat → Int) : Prop := ∀ d, (∀ k, k ≤ n → d ∣ f k) → d ∣ 1
/-- What a row becomes, up to a factor. -/
theorem elimP_eq (row by_ : Nat → Int) (c n : Nat) : ∃ a, 0 < a ∧ ∀ k, k ≤ n → a * elimP row by_ c n k = elimR row by_ c k := by
  unfold elimP
  by_cases h : 1 < allG (elimR row by_ c) (n + 1)
  · refine ⟨allG (elimR row by_ c) (n + 1), by omega, fun k hk => ?_⟩
    rw [if_pos h]
    exact Int.mul_ediv_cancel' (allG_dvd _ _ k (by omega))
  · exact ⟨1, by decide, fun k hk => by rw [if_neg h, Int.one_mul]⟩
theorem elimP_prim (row by_ : Nat → Int) (c n : Nat) (h0 : ∃ k, k ≤ n ∧ elimR row by_ c k ≠ 0) : Prim n (elimP row by_ c n) := by
  intro d hd
  have hz : allG (elimR row by_ c) (n + 1) ≠ 0 := by
    intro hz
    obtain ⟨k, hk, hne⟩ := h0
    have := allG_dvd (elimR row by_ c) (n + 1) k (by omega)
    rw [hz] at this
    exact hne (Int.zero_dvd.1 this)
  have hn := allG_nonneg (elimR row by_ c) (n + 1)
  by_cases h : 1 < allG (elimR row by_ c) (n + 1)
  · have : allG (elimR row by_ c) (n + 1) * d ∣ allG (elimR row by_ c) (n + 1) := dvd_allG _ _ _ fun k hk => by
      have h1 := hd k (by omega)
      unfold elimP at h1
      rw [if_pos h] at h1
      have h2 := Int.mul_dvd_mul_left (allG (elimR row by_ c) (n + 1)) h1
      rwa [Int.mul_ediv_cancel' (allG_dvd _ _ k (by omega))] at h2
    obtain ⟨e, he⟩ := this
    refine ⟨e, ?_⟩
    have h3 : allG (elimR row by_ c) (n + 1) * 1 = allG (elimR row by_ c) (n + 1) * (d * e) := by rw [Int.mul_one, ← Int.mul_assoc]; exact he
    exact Int.eq_of_mul_eq_mul_left hz h3
  · have e1 : allG (elimR row by_ c) (n + 1) = 1 := by omega
    rw [← e1]
    refine dvd_allG _ _ _ fun k hk => ?_
    have h1 := hd k (by omega)
    unfold elimP at h1
    rwa [if_neg h] at h1

/-! ### Sums over a set -/
def sumS (n : Nat) (S : Nat → Bool) (f : Nat → Int) : Int := sumN (fun j => if S j then f j else 0) n
theorem sumS_lin (n : Nat) (S : Nat → Bool) (a b : Int) (f g h : Nat → Int) (a' : Int) (e : ∀ j, j < n → a' * h j = a * f j + b * g j) : a' * sumS n S h = a * sumS n S f + b * sumS n S g := by
  unfold sumS
  rw [← sumN_mul, ← sumN_mul, ← sumN_mul, ← sumN_add]
  refine sumN_congr fun j hj => ?_
  by_cases hs : S j = true
  · simp only [hs, if_true]; exact e j hj
  · simp [hs]
/-- A sum over a set with i in it is at least the whole. -/
theorem sumS_ge {n : Nat} {S : Nat → Bool} {f : Nat → Int} {i : Nat} (hi : S i = true) (hf : ∀ j, j < n → j ≠ i → f j ≤ 0) : sumN f n ≤ sumS n S f := by
  refine sumN_le fun j hj => ?_
  by_cases hs : S j = true
  · rw [if_pos hs]; exact Int.le_refl _
  · rw [if_neg hs]; exact hf j hj (fun e => hs (by rw [e]; exact hi))
theorem sumS_add {n : Nat} {S : Nat → Bool} {f : Nat → Int} {c : Nat} (hc : c < n) (hS : S c = false) : sumS n (fun j => S j || decide (j = c)) f = sumS n S f + f c := by
  have : f c = sumN (fun j => if j = c then f j else 0) n := by rw [sumN_single hc fun j hj hne => if_neg hne, if_pos rfl]
  rw [this]
  unfold sumS
  rw [← sumN_add]
  refine sumN_congr fun j hj => ?_
  by_cases h : j = c
  · subst h; simp [hS]
  · simp [h]
theorem sumS_one {n : Nat} {f : Nat → Int} {i : Nat} (hi : i < n) : sumS n (fun j => decide (j = i)) f = f i := by
  unfold sumS
  rw [sumN_single hi fun j hj hne => by simp [hne]]
  simp

/-! ### What the stages keep -/
def dot (n : Nat) (X : Mat) (l : Nat) (u : Nat → Int) : Int := sumN (fun j => X l j * u j) (n + 1)
theorem dot_lin {n : Nat} {X Y Z : Mat} {l l' l'' : Nat} {a b a' : Int} (h : ∀ k, k ≤ n → a' * Z l k = a * X l' k + b * Y l'' k) (u : Nat → Int) : a' * dot n Z l u = a * dot n X l' u + b * dot n Y l'' u := by
  unfold dot
  rw [← sumN_mul, ← sumN_mul, ← sumN_mul, ← sumN_add]
  refine sumN_congr fun j hj => ?_
  have := h j (by omega)
  grind
theorem dot_vec (n : Nat) (X : Mat) (l : Nat) (a b : Int) (u v : Nat → Int) : dot n X l (fun j => a * u j + b * v j) = a * dot n X l u + b * dot n X l v := by
  unfold dot
  rw [← sumN_mul, ← sumN_mul, ← sumN_add]
  exact sumN_congr fun j hj => by grind
/-- The rows of a set, and unit rows. -/
def MT (M : Mat) (T : Nat → Bool) : Mat := fun l j => if T l then M l j else oneM l j
def bel (c : Nat) : Nat → Bool := fun l => decide (l < c)
def belW (c i : Nat) : Nat → Bool := fun l => decide (l < c) || decide (l = i)

structure Stage (n : Nat) (M : Mat) (c : Nat) (X : Mat) : Prop where
  Z : ∀ i j, i < n → j < n → i ≠ j → X i j ≤ 0
  R : ∀ i, i < n → 0 ≤ sumN (X i) n
  N : ∀ S : Nat → Bool, (∃ i, i < n ∧ S i = true) → ∃ i, i < n ∧ S i = true ∧ 0 < sumS n S (X i)
  O : ∀ i j, i < n → j < c → i ≠ j → X i j = 0
  K : ∀ i, i < n → ∀ u, (∀ l, l < n → belW c i l = true → dot n X l u = 0) ↔ (∀ l, l < n → belW c i l = true → dot n M l u = 0)
  P : ∀ i, i < n → (∀ k, k ≤ n → X i k = M i k) ∨ Prim n (X i)
  D : det n (MT M (bel c)) ≠ 0
variable {n c : Nat} {M X : Mat}
theorem Stage.diag (s : Stage n M c X) {i : Nat} (hi : i < n) : 0 < X i i := by
  obtain ⟨k, hk, hs, h⟩ := s.N (fun j => decide (j = i)) ⟨i, hi, by simp⟩
  have : k = i := by simpa using hs
  subst this
  rwa [sumS_one hi] at h
/-- What a row becomes in a step. -/
theorem Stage.row (s : Stage n M c X) (hc : c < n) {i : Nat} (hi : i < n) (hic : i ≠ c) :
    ∃ a' α β, 0 < a' ∧ 0 < α ∧ 0 ≤ β ∧ (X i c ≠ 0 → 0 < β) ∧ (∀ k, k ≤ n → a' * stepE n c X i k = α * X i k + β * X c k) ∧ stepE n c X i c = 0 ∧ ((∀ k, stepE n c X i k = X i k) ∨ Prim n (stepE n c X i)) := by
  have hcc := s.diag hc
  by_cases h0 : X i c = 0
  · have e : ∀ k, stepE n c X i k = X i k := fun k => by unfold stepE; rw [if_pos (.inr h0)]
    exact ⟨1, 1, 0, by decide, by decide, by decide, fun h => (h h0).elim, fun k hk => by rw [e]; omega, by rw [e, h0], .inl e⟩
  · have hlt : X i c < 0 := by have := s.Z i c hi hc hic; omega
    have e : ∀ k, stepE n c X i k = elimP (X i) (X c) c n k := fun k => by unfold stepE; rw [if_neg (by simp [hic, h0])]
    obtain ⟨a, ha, hae⟩ := elimP_eq (X i) (X c) c n
    have hg := gcdI_pos (a := X i c) (b := X c c) (by omega)
    obtain ⟨p, hp⟩ := (gcdI_dvd (X i c) (X c c)).1
    obtain ⟨q, hq⟩ := (gcdI_dvd (X i c) (X c c)).2
    have d1 : X i c / gcdI (X i c) (X c c) = p := Int.ediv_eq_of_eq_mul_right (by omega) hp
    have d2 : X c c / gcdI (X i c) (X c c) = q := Int.ediv_eq_of_eq_mul_right (by omega) hq
    have hf : ∀ k, elimR (X i) (X c) c k = X i k * q - X c k * p := fun k => by unfold elimR; rw [d1, d2]
    generalize gcdI (X i c) (X c c) = g at *
    have hp0 : p < 0 := by
      have : 0 < g * (-p) := by rw [Int.mul_neg]; omega
      have := pos_of_mul hg this
      omega
    have hq0 : 0 < q := pos_of_mul hg (by omega)
    have heq : ∀ k, k ≤ n → a * stepE n c X i k = q * X i k + -p * X c k := fun k hk => by
      rw [e, hae k hk, hf]; grind
    have hz : stepE n c X i c = 0 := by
      have h1 := heq c (by omega)
      have h2 : q * X i c + -p * X c c = 0 := by rw [hp, hq]; grind
      rw [h2] at h1
      rcases Int.mul_eq_zero.1 h1 with h | h
      · omega
      · exact h
    refine ⟨a, q, -p, ha, hq0, by omega, fun _ => by omega, heq, hz, .inr ?_⟩
    have hfun : stepE n c X i = elimP (X i) (X c) c n := funext e
    rw [hfun]
    refine elimP_prim _ _ _ _ ?_
    refine Classical.byContradiction fun hno => ?_
    have hall : ∀ k, k ≤ n → X i k * q - X c k * p = 0 := fun k hk => by
      rw [← hf]; exact Classical.byContradiction fun h => hno ⟨k, hk, h⟩
    have hsum := sumS_lin n (fun j => decide (j = i) || decide (j = c)) q (-p) (X i) (X c) (fun _ => 0) 0 fun j hj => by
      have := hall j (by omega); grind
    rw [Int.zero_mul] at hsum
    have g1 := Int.le_trans (s.R i hi) (sumS_ge (S := fun j => decide (j = i) || decide (j = c)) (i := i) (by simp) fun j hj hne => s.Z i j hi hj (Ne.symm hne))
    have g2 := Int.le_trans (s.R c hc) (sumS_ge (S := fun j => decide (j = i) || decide (j = c)) (i := c) (by simp) fun j hj hne => s.Z c j hc hj (Ne.symm hne))
    obtain ⟨k, hk, hs, h⟩ := s.N (fun j => decide (j = i) || decide (j = c)) ⟨i, hi, by simp⟩
    have : k = i ∨ k = c := by simpa using hs
    have m1 := Int.mul_nonneg (Int.le_of_lt hq0) g1
    have m2 := Int.mul_nonneg (show 0 ≤ -p by omega) g2
    rcases this with rfl | rfl
    · have := Int.mul_pos hq0 h; omega
    · have := Int.mul_pos (show 0 < -p by omega) h; omega
theorem Stage.step (s : Stage n M c X) (hc : c < n) (hD : det n (MT M (belW c c)) ≠ 0) : Stage n M (c + 1) (stepE n c X) := by
  have hrow := fun i hi hic => s.row hc (i := i) hi hic
  have hself : ∀ k, stepE n c X c k = X c k := fun k => by unfold stepE; rw [if_pos (.inl rfl)]
  have hZ : ∀ i j, i < n → j < n → i ≠ j → stepE n c X i j ≤ 0 := by
    intro i j hi hj hij
    by_cases hic : i = c
    · subst hic; rw [hself]; exact s.Z i j hi hj hij
    · obtain ⟨a, α, β, ha, hα, hβ, _, he, hz, _⟩ := hrow i hi hic
      by_cases hjc : j = c
      · subst hjc; rw [hz]; exact Int.le_refl _
      · have h1 := he j (by omega)
        have h2 := s.Z i j hi hj hij
        have h3 := s.Z c j hc hj (Ne.symm hjc)
        have m1 := Int.mul_nonneg (Int.le_of_lt hα) (show 0 ≤ - X i j by omega)
        have m2 := Int.mul_nonneg hβ (show 0 ≤ - X c j by omega)
        refine np_of_mul ha ?_
        have e1 : α * -X i j = -(α * X i j) := by grind
        have e2 : β * -X c j = -(β * X c j) := by grind
        omega
  have hR : ∀ i, i < n → 0 ≤ sumN (stepE n c X i) n := by
    intro i hi
    by_cases hic : i = c
    · subst hic
      have := s.R i hi
      rwa [sumN_congr (f := stepE n i X i) (g := X i) fun k _ => hself k]
    · obtain ⟨a, α, β, ha, hα, hβ, _, he, hz, _⟩ := hrow i hi hic
      have h1 : a * sumN (stepE n c X i) n = α * sumN (X i) n + β * sumN (X c) n := by
        rw [← sumN_mul, ← sumN_mul, ← sumN_mul, ← sumN_add]
        exact sumN_congr fun j hj => he j (by omega)
      have m1 := Int.mul_nonneg (Int.le_of_lt hα) (s.R i hi)
      have m2 := Int.mul_nonneg hβ (s.R c hc)
      exact nn_of_mul ha (by omega)
  have hge : ∀ (S : Nat → Bool) i, i < n → S i = true → 0 ≤ sumS n S (X i) := fun S i hi hs => Int.le_trans (s.R i hi) (sumS_ge hs fun j hj hne => s.Z i j hi hj (Ne.symm hne))
  have hlin : ∀ (S : Nat → Bool) {i : Nat} {a α β : Int}, (∀ k, k ≤ n → a * stepE n c X i k = α * X i k + β * X c k) → a * sumS n S (stepE n c X i) = α * sumS n S (X i) + β * sumS n S (X c) := fun S i a α β he => sumS_lin n S α β _ _ _ a fun j hj => he j (by omega)
  have hcS : ∀ S : Nat → Bool, sumS n S (stepE n c X c) = sumS n S (X c) := fun S => by unfold sumS; exact sumN_congr fun j _ => by rw [hself]
  have hN : ∀ S : Nat → Bool, (∃ i, i < n ∧ S i = true) → ∃ i, i < n ∧ S i = true ∧ 0 < sumS n S (stepE n c X i) := by
    intro S hS
    by_cases hcS' : S c = true
    · obtain ⟨i, hi, hs, h⟩ := s.N S hS
      by_cases hic : i = c
      · subst hic; exact ⟨i, hi, hs, by rw [hcS]; exact h⟩
      · obtain ⟨a, α, β, ha, hα, hβ, _, he, hz, _⟩ := hrow i hi hic
        refine ⟨i, hi, hs, pos_of_mul ha ?_⟩
        rw [hlin S he]
        have m1 := Int.mul_pos hα h
        have m2 := Int.mul_nonneg hβ (hge S c hc hcS')
        omega
    have hcF : S c = false := by simpa using hcS'
    -- the sum over S and c
    have hadd : ∀ i, i < n → S i = true → ∃ a α β, 0 < a ∧ 0 < α ∧ 0 ≤ β ∧ (X i c ≠ 0 → 0 < β) ∧ a * sumS n S (stepE n c X i) = α * sumS n (fun j => S j || decide (j = c)) (X i) + β * sumS n (fun j => S j || decide (j = c)) (X c) := by
      intro i hi hs
      have hic : i ≠ c := fun e => by rw [e, hcF] at hs; cases hs
      obtain ⟨a, α, β, ha, hα, hβ, hb, he, hz, _⟩ := hrow i hi hic
      refine ⟨a, α, β, ha, hα, hβ, hb, ?_⟩
      rw [← hlin _ he, sumS_add hc hcF, hz, Int.add_zero]
    have hgx : ∀ i, i < n → S i = true → 0 ≤ sumS n (fun j => S j || decide (j = c)) (X i) := fun i hi hs => hge _ i hi (by simp [hs])
    have hgc : 0 ≤ sumS n (fun j => S j || decide (j = c)) (X c) := hge _ c hc (by simp)
    obtain ⟨i0, hi0, hs0, h0⟩ := s.N (fun j => S j || decide (j = c)) ⟨c, hc, by simp⟩
    have good : ∀ i, i < n → S i = true → (0 < sumS n (fun j => S j || decide (j = c)) (X i) ∨ (X i c ≠ 0 ∧ 0 < sumS n (fun j => S j || decide (j = c)) (X c))) → 0 < sumS n S (stepE n c X i) := by
      intro i hi hs h
      obtain ⟨a, α, β, ha, hα, hβ, hb, he⟩ := hadd i hi hs
      refine pos_of_mul ha ?_
      rw [he]
      have g1 := Int.mul_nonneg (Int.le_of_lt hα) (hgx i hi hs)
      have g2 := Int.mul_nonneg hβ hgc
      rcases h with h | ⟨h1, h2⟩
      · have := Int.mul_pos hα h; omega
      · have := Int.mul_pos (hb h1) h2; omega
    by_cases hi0c : i0 = c
    · subst hi0c
      by_cases hex : ∃ i, i < n ∧ S i = true ∧ X i i0 ≠ 0
      · obtain ⟨i, hi, hs, hx⟩ := hex
        exact ⟨i, hi, hs, good i hi hs (.inr ⟨hx, h0⟩)⟩
      · obtain ⟨i1, hi1, hs1, h1⟩ := s.N S hS
        have hx : X i1 i0 = 0 := Classical.byContradiction fun h => hex ⟨i1, hi1, hs1, h⟩
        refine ⟨i1, hi1, hs1, good i1 hi1 hs1 (.inl ?_)⟩
        rw [sumS_add hc hcF, hx, Int.add_zero]; exact h1
    · have hs : S i0 = true := by simpa [hi0c] using hs0
      exact ⟨i0, hi0, hs, good i0 hi0 hs (.inl h0)⟩
  have hO : ∀ i j, i < n → j < c + 1 → i ≠ j → stepE n c X i j = 0 := by
    intro i j hi hj hij
    by_cases hic : i = c
    · subst hic; rw [hself]; exact s.O i j hi (by omega) hij
    · obtain ⟨a, α, β, ha, hα, hβ, _, he, hz, _⟩ := hrow i hi hic
      by_cases hjc : j = c
      · subst hjc; exact hz
      · have h1 := he j (by omega)
        rw [s.O i j hi (by omega) hij, s.O c j hc (by omega) (Ne.symm hjc), Int.mul_zero, Int.mul_zero] at h1
        rcases Int.mul_eq_zero.1 h1 with h | h
        · omega
        · exact h
  have hdc : ∀ u, dot n (stepE n c X) c u = dot n X c u := fun u => by unfold dot; exact sumN_congr fun j _ => by rw [hself]
  have hK : ∀ i, i < n → ∀ u, (∀ l, l < n → belW (c + 1) i l = true → dot n (stepE n c X) l u = 0) ↔ (∀ l, l < n → belW (c + 1) i l = true → dot n M l u = 0) := by
    intro i hi u
    -- what the rows of X do
    have h1 : (∀ l, l < n → belW (c + 1) i l = true → dot n (stepE n c X) l u = 0) ↔ (∀ l, l < n → belW (c + 1) i l = true → dot n X l u = 0) := by
      have hcm : belW (c + 1) i c = true := by simp [belW]
      constructor
      · intro h l hl hb
        have hcz : dot n X c u = 0 := by rw [← hdc]; exact h c hc hcm
        by_cases hlc : l = c
        · subst hlc; exact hcz
        · obtain ⟨a, α, β, ha, hα, hβ, _, he, hz, _⟩ := hrow l hl hlc
          have := dot_lin (Z := stepE n c X) (l := l) he u
          rw [h l hl hb, hcz, Int.mul_zero, Int.mul_zero, Int.add_zero] at this
          rcases Int.mul_eq_zero.1 this.symm with h | h
          · omega
          · exact h
      · intro h l hl hb
        have hcz : dot n X c u = 0 := h c hc hcm
        by_cases hlc : l = c
        · subst hlc; rw [hdc]; exact hcz
        · obtain ⟨a, α, β, ha, hα, hβ, _, he, hz, _⟩ := hrow l hl hlc
          have := dot_lin (Z := stepE n c X) (l := l) he u
          rw [h l hl hb, hcz, Int.mul_zero, Int.mul_zero, Int.add_zero] at this
          rcases Int.mul_eq_zero.1 this with h | h
          · omega
          · exact h
    rw [h1]
    have two : ∀ Y : Mat, (∀ l, l < n → belW (c + 1) i l = true → dot n Y l u = 0) ↔ ((∀ l, l < n → belW c i l = true → dot n Y l u = 0) ∧ (∀ l, l < n → belW c c l = true → dot n Y l u = 0)) := by
      intro Y
      constructor
      · intro h
        refine ⟨fun l hl hb => h l hl ?_, fun l hl hb => h l hl ?_⟩
        · simp only [belW, Bool.or_eq_true, decide_eq_true_eq] at hb ⊢; omega
        · simp only [belW, Bool.or_eq_true, decide_eq_true_eq] at hb ⊢; omega
      · rintro ⟨h2, h3⟩ l hl hb
        by_cases hlc : l = c
        · exact h3 l hl (by simp [belW, hlc])
        · refine h2 l hl ?_
          simp only [belW, Bool.or_eq_true, decide_eq_true_eq] at hb ⊢; omega
    rw [two, two, s.K i hi u, s.K c hc u]
  have hP : ∀ i, i < n → (∀ k, k ≤ n → stepE n c X i k = M i k) ∨ Prim n (stepE n c X i) := by
    intro i hi
    have old : (∀ k, stepE n c X i k = X i k) → (∀ k, k ≤ n → stepE n c X i k = M i k) ∨ Prim n (stepE n c X i) := fun e => by
      rcases s.P i hi with h | h
      · exact .inl fun k hk => by rw [e, h k hk]
      · right; rw [show stepE n c X i = X i from funext e]; exact h
    by_cases hic : i = c
    · subst hic; exact old hself
    · obtain ⟨a, α, β, ha, hα, hβ, _, he, hz, h⟩ := hrow i hi hic
      rcases h with h | h
      · exact old h
      · exact .inr h
  refine ⟨hZ, hR, hN, hO, hK, hP, ?_⟩
  have : bel (c + 1) = belW c c := by
    funext l; simp only [bel, belW]
    by_cases h : l < c + 1
    · have : l < c ∨ l = c := by omega
      simp [h, this]
    · have : ¬ (l < c ∨ l = c) := by omega
      rw [decide_eq_false h]; simp only [not_or] at this; simp [this]
  rw [this]; exact hD
end Go.Proofs.Ytgamcclfdkpcgaa

set_option linter.unusedVariables false
set_option linter.unusedSimpArgs false
set_option maxRecDepth 10000
namespace Go.Proofs.Ytgamcclfdkpcgaa
open Go Go.Am

theorem prodN_pos {f : Nat → Int} : ∀ {n : Nat}, (∀ i, i < n → 0 < f i) → 0 < prodN f n
  | 0, _ => by simp [prodN]
  | n + 1, h => Int.mul_pos (prodN_pos fun i hi => h i (by omega)) (h n (by omega))
theorem prodN_dvd {f : Nat → Int} : ∀ {n : Nat} {i : Nat}, i < n → f i ∣ prodN f n
  | 0, i, h => by omega
  | n + 1, i, h => by
    rw [prodN]
    by_cases hi : i = n
    · subst hi; exact Int.dvd_mul_left _ _
    · exact Int.dvd_trans (prodN_dvd (show i < n by omega)) (Int.dvd_mul_right _ _)
/-- Two places that matter. -/
theorem sumN_pair {f : Nat → Int} {n a b : Nat} (ha : a < n) (hb : b < n) (hab : a ≠ b) (h : ∀ j, j < n → j ≠ a → j ≠ b → f j = 0) : sumN f n = f a + f b := by
  have h1 := sumN_add (fun j => if j = a then f a else 0) (fun j => if j = b then f b else 0) n
  rw [sumN_single ha fun j _ hj => if_neg hj, sumN_single hb fun j _ hj => if_neg hj, if_pos rfl, if_pos rfl] at h1
  rw [← h1]
  refine sumN_congr fun j hj => ?_
  by_cases e1 : j = a
  · subst e1; rw [if_pos rfl, if_neg hab, Int.add_zero]
  · by_cases e2 : j = b
    · subst e2; rw [if_neg e1, if_pos rfl, Int.zero_add]
    · rw [if_neg e1, if_neg e2, h j hj e1 e2]; rfl

section
variable {n c : Nat} {M X : Mat}
def pC (X : Mat) (c : Nat) : Int := prodN (fun l => X l l) c
/-- What the first rows do not see: column j0 and what must go with it. -/
def wv (X : Mat) (c j0 : Nat) : Nat → Int := fun j => if j = j0 then pC X c else if j < c then - X j j0 * (pC X c / X j j) else 0
theorem Stage.pC_pos (s : Stage n M c X) (hc : c ≤ n) : 0 < pC X c := prodN_pos fun i hi => s.diag (by omega)
theorem Stage.wv_kill (s : Stage n M c X) (hc : c ≤ n) {j0 : Nat} (h0 : c ≤ j0) (hj : j0 ≤ n) {l : Nat} (hl : l < c) : dot n X l (wv X c j0) = 0 := by
  have hd := s.diag (i := l) (by omega)
  have hdv : X l l ∣ pC X c := prodN_dvd (f := fun l => X l l) hl
  unfold dot
  rw [sumN_pair (a := l) (b := j0) (by omega) (by omega) (by omega) fun j hj h1 h2 => ?_]
  · unfold wv
    rw [if_neg (by omega), if_pos hl, if_pos rfl]
    have := Int.mul_ediv_cancel' hdv
    grind
  · by_cases hjc : j < c
    · rw [s.O l j (by omega) hjc (Ne.symm h1), Int.zero_mul]
    · unfold wv; rw [if_neg h2, if_neg hjc, Int.mul_zero]
theorem Stage.wv_row (s : Stage n M c X) (hc : c ≤ n) {j0 : Nat} (h0 : c ≤ j0) (hj : j0 ≤ n) {i : Nat} (hi : c ≤ i) (hin : i < n) : dot n X i (wv X c j0) = X i j0 * pC X c := by
  unfold dot
  rw [sumN_single (k := j0) (by omega) fun j hj h1 => ?_]
  · unfold wv; rw [if_pos rfl]
  · by_cases hjc : j < c
    · rw [s.O i j (by omega) hjc (by omega), Int.zero_mul]
    · unfold wv; rw [if_neg h1, if_neg hjc, Int.mul_zero]
theorem bel_iff {c l : Nat} : bel c l = true ↔ l < c := by simp [bel]
theorem belW_iff {c i l : Nat} : belW c i l = true ↔ l < c ∨ l = i := by simp [belW]
/-- The first rows of M do not see it either. -/
theorem Stage.wv_M (s : Stage n M c X) (hc : c ≤ n) {j0 : Nat} (h0 : c ≤ j0) (hj : j0 ≤ n) {l : Nat} (hl : l < c) : dot n M l (wv X c j0) = 0 :=
  (s.K l (by omega) _).1 (fun k hk hb => s.wv_kill hc h0 hj (by rw [belW_iff] at hb; omega)) l (by omega) (by rw [belW_iff]; exact .inl hl)
/-- The numbers of a row that is a unit row. -/
theorem one_dot {n l : Nat} (hl : l < n) (v : Nat → Int) : sumN (fun j => oneM l j * v j) n = v l := by
  rw [sumN_single hl fun j _ h => by unfold oneM; rw [if_neg (Ne.symm h), Int.zero_mul]]
  unfold oneM; rw [if_pos rfl, Int.one_mul]
/-- One more row: the determinant stays other than zero. -/
theorem Stage.det_next (s : Stage n M c X) {i : Nat} (hi : c ≤ i) (hin : i < n) : det n (MT M (belW c i)) ≠ 0 := by
  have hc : c ≤ n := by omega
  have hP := s.pC_pos hc
  have hwn : wv X c i n = 0 := by unfold wv; rw [if_neg (by omega), if_neg (by omega)]
  have hdn : ∀ l, dot n M l (wv X c i) = sumN (fun j => M l j * wv X c i j) n := fun l => by unfold dot; rw [sumN, hwn, Int.mul_zero, Int.add_zero]
  have hsi : dot n M i (wv X c i) ≠ 0 := by
    intro h
    have hk := (s.K i hin (wv X c i)).2 (fun l hl hb => by
      rw [belW_iff] at hb
      rcases hb with hb | rfl
      · exact s.wv_M hc hi (by omega) hb
      · exact h) i hin (by rw [belW_iff]; exact .inr rfl)
    rw [s.wv_row hc hi (by omega) hi hin] at hk
    have := Int.mul_pos (s.diag hin) hP
    omega
  generalize hσ : dot n M i (wv X c i) = σ at *
  -- Cramer, with the row and without it
  have c1 := cramer (MT M (belW c i)) hin (wv X c i) (fun r => if r = i then σ else 0) fun r hr => by
    by_cases hri : r = i
    · subst hri
      rw [if_pos rfl, ← hσ, hdn]
      exact sumN_congr fun j _ => by unfold MT; rw [if_pos (belW_iff.2 (.inr rfl))]
    · rw [if_neg hri]
      by_cases hrc : r < c
      · rw [← s.wv_M hc hi (by omega) hrc, hdn]
        exact sumN_congr fun j _ => by unfold MT; rw [if_pos (belW_iff.2 (.inl hrc))]
      · have : ∀ j, MT M (belW c i) r j = oneM r j := fun j => by unfold MT; rw [if_neg (by rw [belW_iff]; omega)]
        simp only [this, one_dot hr]
        unfold wv; rw [if_neg hri, if_neg hrc]
  have c2 := cramer (MT M (bel c)) hin (wv X c i) (fun r => if r = i then pC X c else 0) fun r hr => by
    by_cases hrc : r < c
    · rw [if_neg (by omega), ← s.wv_M hc hi (by omega) hrc, hdn]
      exact sumN_congr fun j _ => by unfold MT; rw [if_pos (bel_iff.2 hrc)]
    · have : ∀ j, MT M (bel c) r j = oneM r j := fun j => by unfold MT; rw [if_neg (by rw [bel_iff]; omega)]
      simp only [this, one_dot hr]
      unfold wv
      by_cases hri : r = i
      · rw [if_pos hri, if_pos hri]
      · rw [if_neg hri, if_neg hri, if_neg hrc]
  have lin : ∀ (A : Mat) (t : Int), det n (colU A i fun r => if r = i then t else 0) = t * det n (colU A i fun r => if r = i then 1 else 0) := fun A t => by
    have := det_lin A hin t 0 (fun r => if r = i then 1 else 0) (fun _ => 0)
    simp only [Int.zero_mul, Int.add_zero] at this
    rw [← this]
    congr 2; funext r
    split <;> simp
  rw [lin] at c1 c2
  have hw : wv X c i i = pC X c := by unfold wv; rw [if_pos rfl]
  rw [hw] at c1 c2
  have e : det n (colU (MT M (belW c i)) i fun r => if r = i then 1 else 0) = det n (colU (MT M (bel c)) i fun r => if r = i then 1 else 0) := by
    refine det_clear _ _ hin (fun r _ => by simp [colU]) (fun r k hr hk hne => ?_) (fun r _ => by simp [colU])
    unfold colU
    by_cases hki : k = i
    · rw [if_pos hki, if_pos hki]
    · rw [if_neg hki, if_neg hki]
      unfold MT
      have : belW c i r = bel c r := by simp [belW, bel, hne]
      rw [this]
  rw [e] at c1
  have e2 := Int.eq_of_mul_eq_mul_left (Int.ne_of_gt hP) c2
  rw [e2] at c1
  intro h0
  rw [h0, Int.mul_zero] at c1
  rcases Int.mul_eq_zero.1 c1 with h | h
  · exact hsi h
  · exact s.D h
/-- What a minor with a column put in is. -/
def yD (n : Nat) (M : Mat) (T : Nat → Bool) (i j : Nat) : Int := det n (colU (MT M T) i fun l => if T l then M l j else 0)
/-- A row against its minors. -/
theorem Stage.cross (s : Stage n M c X) (hc : c ≤ n) {i j0 : Nat} (hin : i < n) (h0 : c ≤ j0) (hj : j0 ≤ n) (hne : j0 ≠ i) : X i i * yD n M (belW c i) i j0 = X i j0 * det n (MT M (belW c i)) := by
  have hP := s.pC_pos hc
  -- any vector that the rows do not see
  have main : ∀ u : Nat → Int, (∀ l, l < n → belW c i l = true → dot n M l u = 0) → (∀ l, l ≤ n → l ≠ j0 → belW c i l = false → u l = 0) → - u j0 * yD n M (belW c i) i j0 = u i * det n (MT M (belW c i)) := by
    intro u hk hz
    have hv : ∀ l, sumN (fun j => M l j * (if j = j0 then 0 else u j)) n = dot n M l u - M l j0 * u j0 := by
      intro l
      have hn : (if n = j0 then 0 else u n) = 0 := by
        by_cases h : n = j0
        · rw [if_pos h]
        · rw [if_neg h]; exact hz n (Nat.le_refl _) h (by
            have : ¬ (n < c ∨ n = i) := by omega
            rw [← belW_iff] at this; simpa using this)
      have e1 : sumN (fun j => M l j * (if j = j0 then 0 else u j)) n = sumN (fun j => M l j * (if j = j0 then 0 else u j)) (n + 1) := by
        rw [sumN]; simp only [hn, Int.mul_zero, Int.add_zero]
      have e2 : M l j0 * u j0 = sumN (fun j => if j = j0 then M l j0 * u j0 else 0) (n + 1) := by
        rw [sumN_single (show j0 < n + 1 by omega) fun j _ h => if_neg h, if_pos rfl]
      have e3 : dot n M l u = sumN (fun j => M l j * (if j = j0 then 0 else u j)) (n + 1) + sumN (fun j => if j = j0 then M l j0 * u j0 else 0) (n + 1) := by
        rw [← sumN_add]; unfold dot
        refine sumN_congr fun j _ => ?_
        by_cases h : j = j0
        · subst h; rw [if_pos rfl, if_pos rfl]; omega
        · rw [if_neg h, if_neg h]; omega
      rw [e1, e3, ← e2]; omega
    have c1 := cramer (MT M (belW c i)) hin (fun j => if j = j0 then 0 else u j) (fun l => - u j0 * (if belW c i l then M l j0 else 0)) fun r hr => by
      by_cases hb : belW c i r = true
      · have : ∀ j, MT M (belW c i) r j = M r j := fun j => by unfold MT; rw [if_pos hb]
        simp only [this]
        rw [hv, hk r hr hb, if_pos hb]; grind
      · have : ∀ j, MT M (belW c i) r j = oneM r j := fun j => by unfold MT; rw [if_neg hb]
        simp only [this, one_dot hr]
        rw [if_neg hb, Int.mul_zero]
        split
        · rfl
        · rename_i h; exact hz r (by omega) h (by simpa using hb)
    have := det_lin (MT M (belW c i)) hin (- u j0) 0 (fun l => if belW c i l then M l j0 else 0) (fun _ => 0)
    simp only [Int.zero_mul, Int.add_zero] at this
    rw [this, if_neg (Ne.symm hne)] at c1
    exact c1
  by_cases hic : i < c
  · have h1 := main (wv X c j0) (fun l hl hb => s.wv_M hc h0 hj (by rw [belW_iff] at hb; omega)) (fun l hl h2 hb => by
      have : ¬ belW c i l = true := by simp [hb]
      rw [belW_iff] at this
      unfold wv; rw [if_neg h2, if_neg (by omega)])
    have hdv : X i i ∣ pC X c := prodN_dvd (f := fun l => X l l) hic
    have hd := s.diag hin
    have e1 : wv X c j0 j0 = pC X c := by unfold wv; rw [if_pos rfl]
    have e2 : wv X c j0 i = - X i j0 * (pC X c / X i i) := by unfold wv; rw [if_neg (Ne.symm hne), if_pos hic]
    rw [e1, e2] at h1
    have hq := Int.mul_ediv_cancel' hdv
    generalize yD n M (belW c i) i j0 = y at *
    generalize det n (MT M (belW c i)) = D at *
    generalize pC X c / X i i = q at *
    have h3 : pC X c * (X i i * y) = pC X c * (X i j0 * D) := by rw [← hq] at h1 ⊢; grind
    exact Int.eq_of_mul_eq_mul_left (Int.ne_of_gt hP) h3
  · have hci : c ≤ i := by omega
    have hu : ∀ l, dot n M l (fun j => X i i * wv X c j0 j + - X i j0 * wv X c i j) = X i i * dot n M l (wv X c j0) + - X i j0 * dot n M l (wv X c i) := fun l => dot_vec _ _ _ _ _ _ _
    have hux : ∀ l, l < n → belW c i l = true → dot n X l (fun j => X i i * wv X c j0 j + - X i j0 * wv X c i j) = 0 := by
      intro l hl hb
      rw [dot_vec]
      rw [belW_iff] at hb
      rcases hb with hb | rfl
      · rw [s.wv_kill hc h0 hj hb, s.wv_kill hc hci (by omega) hb]; simp
      · rw [s.wv_row hc h0 hj hci hin, s.wv_row hc hci (by omega) hci hin]; grind
    have h1 := main _ ((s.K i hin _).1 hux) (fun l hl h2 hb => by
      have : ¬ belW c i l = true := by simp [hb]
      rw [belW_iff] at this
      unfold wv; rw [if_neg h2, if_neg (by omega), if_neg (by omega), if_neg (by omega)]; simp)
    have e1 : wv X c j0 j0 = pC X c := by unfold wv; rw [if_pos rfl]
    have e2 : wv X c i i = pC X c := by unfold wv; rw [if_pos rfl]
    have e3 : wv X c i j0 = 0 := by unfold wv; rw [if_neg hne, if_neg (by omega)]
    have e4 : wv X c j0 i = 0 := by unfold wv; rw [if_neg (Ne.symm hne), if_neg hic]
    simp only [e1, e2, e3, e4] at h1
    generalize yD n M (belW c i) i j0 = y at *
    generalize det n (MT M (belW c i)) = D at *
    have h3 : pC X c * (X i i * y) = pC X c * (X i j0 * D) := by grind
    exact Int.eq_of_mul_eq_mul_left (Int.ne_of_gt hP) h3
theorem Stage.det_ne (s : Stage n M c X) (hc : c ≤ n) {i : Nat} (hin : i < n) : det n (MT M (belW c i)) ≠ 0 := by
  by_cases hic : i < c
  · have : belW c i = bel c := by
      funext l; simp only [belW, bel]
      by_cases h : l = i
      · subst h; simp [hic]
      · simp [h]
    rw [this]; exact s.D
  · exact s.det_next (by omega) hin
end
end Go.Proofs.Ytgamcclfdkpcgaa

set_option linter.unusedVariables false
set_option linter.unusedSimpArgs false
set_option maxRecDepth 10000
namespace Go.Proofs.Ytgamcclfdkpcgaa
open Go Go.Am

theorem prim_dvd {n : Nat} {f : Nat → Int} (hp : Prim n f) {d D : Int} (hd : 0 < d) (h : ∀ k, k ≤ n → d ∣ f k * D) : d ∣ D := by
  have hg : 0 < Int.gcd d D := Int.gcd_pos_of_ne_zero_left _ (by omega)
  have hco := Int.gcd_ediv_gcd_ediv_gcd hg
  obtain ⟨d', hd'⟩ := Int.gcd_dvd_left d D
  obtain ⟨D', hD'⟩ := Int.gcd_dvd_right d D
  have e1 : d / (Int.gcd d D : Int) = d' := Int.ediv_eq_of_eq_mul_right (by omega) hd'
  have e2 : D / (Int.gcd d D : Int) = D' := Int.ediv_eq_of_eq_mul_right (by omega) hD'
  rw [e1, e2] at hco
  have hdvd : ((Int.gcd d D : Nat) : Int) ∣ D := ⟨D', hD'⟩
  generalize hgg : ((Int.gcd d D : Nat) : Int) = g at *
  have hg0 : g ≠ 0 := by omega
  have hd1 : d' ∣ 1 := hp d' fun k hk => by
    obtain ⟨t, ht⟩ := h k hk
    have h3 : g * (f k * D') = g * (d' * t) := by rw [hD', hd'] at ht; grind
    have h4 := Int.eq_of_mul_eq_mul_left hg0 h3
    have h5 : d'.natAbs ∣ (f k).natAbs * D'.natAbs := by
      rw [← Int.natAbs_mul, h4, Int.natAbs_mul]; exact Nat.dvd_mul_right _ _
    have h6 : d'.natAbs ∣ (f k).natAbs := Nat.Coprime.dvd_of_dvd_mul_right (show Nat.Coprime d'.natAbs D'.natAbs from hco) h5
    exact Int.natAbs_dvd_natAbs.1 h6
  obtain ⟨t, ht⟩ := hd1
  obtain ⟨w, hw⟩ := hdvd
  refine ⟨t * w, ?_⟩
  rw [hd', hw]
  have : g * d' * (t * w) = g * w * (d' * t) := by grind
  rw [this, ← ht]; omega

/-- A system as the program sets it up. -/
structure Sys (n : Nat) (M : Mat) : Prop where
  Z : ∀ i j, i < n → j < n → i ≠ j → M i j ≤ 0
  R : ∀ i, i < n → 0 ≤ sumN (M i) n
  N : ∀ S : Nat → Bool, (∃ i, i < n ∧ S i = true) → ∃ i, i < n ∧ S i = true ∧ 0 < sumS n S (M i)
  B : ∀ i, i < n → sumN (fun j => absI (M i j)) n ≤ 8
  C : ∀ i, i < n → absI (M i n) ≤ 1000
section
variable {n : Nat} {M : Mat}
theorem Sys.stage (S : Sys n M) : ∀ c, c ≤ n → Stage n M c (XE n M c)
  | 0, _ => by
    refine ⟨S.Z, S.R, S.N, fun i j _ h => by omega, fun i hi u => Iff.rfl, fun i hi => .inl fun k _ => rfl, ?_⟩
    have : MT M (bel 0) = oneM := by funext l j; simp [MT, bel]
    rw [this, det_one]; decide
  | c + 1, h => (S.stage c (by omega)).step (by omega) ((S.stage c (by omega)).det_ne (by omega) (by omega))
/-- The bounds: for what stands in a column of a state, and for the constants. -/
def bE (n : Nat) : Int := 8 ^ n
def bC (n : Nat) : Int := n * (1000 * 9 ^ n)
theorem one_row (n l : Nat) : sumN (fun j => absI (oneM l j)) n ≤ 1 := by
  by_cases h : l < n
  · rw [sumN_single h fun j _ h => by unfold oneM; rw [if_neg (Ne.symm h)]; rfl]
    unfold oneM; rw [if_pos rfl]; decide
  · have := sumN_congr (f := fun j => absI (oneM l j)) (g := fun _ => 0) (n := n) fun j hj => by unfold oneM; rw [if_neg (by omega)]; rfl
    rw [this, sumN_zero]; decide
theorem Sys.mt_row (S : Sys n M) (T : Nat → Bool) {r : Nat} (hr : r < n) : sumN (fun j => absI (MT M T r j)) n ≤ 8 := by
  unfold MT
  by_cases h : T r = true
  · simp only [h, if_true]; exact S.B r hr
  · have h' : T r = false := by simpa using h
    simp only [h', Bool.false_eq_true, if_false]
    have := one_row n r; omega
theorem Sys.detB (S : Sys n M) (T : Nat → Bool) : absI (det n (MT M T)) ≤ bE n := det_bound (by decide) _ fun r hr => S.mt_row T hr
theorem Sys.yB (S : Sys n M) (T : Nat → Bool) {i : Nat} (hi : i < n) : absI (yD n M T i n) ≤ bC n := by
  refine det_bound_col (B := 8) (C := 1000) (by decide) (by decide) _ hi _ (fun r hr => S.mt_row T hr) fun r hr => ?_
  split
  · exact S.C r hr
  · decide
theorem absI_le {x B : Int} : absI x ≤ B ↔ -B ≤ x ∧ x ≤ B := by unfold absI; omega
theorem term_le {f : Nat → Int} {n k : Nat} (h : ∀ j, 0 ≤ f j) (hk : k < n) : f k ≤ sumN f n := by
  have := sumN_mono h (show k + 1 ≤ n by omega)
  rw [sumN] at this
  have h0 := sumN_mono h (show 0 ≤ k by omega)
  have : sumN f 0 = 0 := rfl
  omega
theorem bE_ge (h : 1 ≤ n) : 8 ≤ bE n := by
  obtain ⟨m, rfl⟩ : ∃ m, n = m + 1 := ⟨n - 1, by omega⟩
  have : (0 : Int) < 8 ^ m := Int.pow_pos (by decide)
  rw [bE, Int.pow_succ]; omega
theorem bC_ge (h : 1 ≤ n) : 1000 ≤ bC n := by
  have h1 : (1 : Int) ≤ 9 ^ n := by have : (0 : Int) < 9 ^ n := Int.pow_pos (by decide); omega
  have h2 : (1 : Int) * (1000 * 1) ≤ n * (1000 * 9 ^ n) := Int.mul_le_mul (by omega) (by omega) (by decide) (by omega)
  rw [bC]; omega
theorem Sys.prim_diag (S : Sys n M) {c : Nat} (hc : c ≤ n) {i : Nat} (hi : i < n) (hp : Prim n (XE n M c i)) : XE n M c i i ∣ det n (MT M (belW c i)) := by
  have s := S.stage c hc
  refine prim_dvd hp (s.diag hi) fun k hk => ?_
  by_cases hki : k = i
  · subst hki; exact Int.dvd_mul_right _ _
  · by_cases hkc : k < c
    · rw [s.O i k hi hkc (Ne.symm hki), Int.zero_mul]; exact Int.dvd_zero _
    · exact ⟨_, (s.cross hc hi (by omega) hk hki).symm⟩
theorem Sys.diag_le (S : Sys n M) {c : Nat} (hc : c ≤ n) {i : Nat} (hi : i < n) : XE n M c i i ≤ bE n := by
  have s := S.stage c hc
  rcases s.P i hi with h | h
  · rw [h i (by omega)]
    have h1 := term_le (f := fun j => absI (M i j)) (fun j => absI_nonneg _) hi
    have h2 := S.B i hi
    have h3 := bE_ge (n := n) (by omega)
    have h4 := (absI_le.1 (Int.le_refl (absI (M i i)))).2
    omega
  · obtain ⟨t, ht⟩ := S.prim_diag hc hi h
    have hne := s.det_ne hc hi
    have hB := S.detB (belW c i)
    have hd := s.diag hi
    rw [ht] at hne hB
    have ht0 : t ≠ 0 := fun e => hne (by rw [e, Int.mul_zero])
    rw [absI_mul] at hB
    have h1 : 1 ≤ absI t := by unfold absI; omega
    have h2 : absI (XE n M c i i) * 1 ≤ absI (XE n M c i i) * absI t := Int.mul_le_mul_of_nonneg_left h1 (absI_nonneg _)
    have h3 := (absI_le.1 (Int.le_refl (absI (XE n M c i i)))).2
    omega
theorem Sys.ent_le (S : Sys n M) {c : Nat} (hc : c ≤ n) {i j : Nat} (hi : i < n) (hj : j < n) : -bE n ≤ XE n M c i j ∧ XE n M c i j ≤ bE n := by
  have s := S.stage c hc
  have hd := s.diag hi
  have hl := S.diag_le hc hi
  by_cases hij : i = j
  · subst hij; omega
  · have h1 := s.Z i j hi hj hij
    have h2 := sumS_ge (n := n) (S := fun k => decide (k = i) || decide (k = j)) (f := XE n M c i) (i := i) (by simp) fun k hk hne => s.Z i k hi hk (Ne.symm hne)
    have h3 : sumS n (fun k => decide (k = i) || decide (k = j)) (XE n M c i) = XE n M c i i + XE n M c i j := by
      unfold sumS
      rw [sumN_pair hi hj hij fun k hk h1 h2 => by simp [h1, h2]]
      simp
    have h4 := s.R i hi
    omega
theorem Sys.const_le (S : Sys n M) {c : Nat} (hc : c ≤ n) {i : Nat} (hi : i < n) : -bC n ≤ XE n M c i n ∧ XE n M c i n ≤ bC n := by
  have s := S.stage c hc
  rcases s.P i hi with h | h
  · rw [h n (Nat.le_refl _)]
    have h1 := absI_le.1 (S.C i hi)
    have h3 := bC_ge (n := n) (by omega)
    omega
  · obtain ⟨t, ht⟩ := S.prim_diag hc hi h
    have hne := s.det_ne hc hi
    have hd := s.diag hi
    have hy := S.yB (belW c i) hi
    have hcr := s.cross hc hi hc (Nat.le_refl _) (Nat.ne_of_gt hi)
    rw [ht] at hcr hne
    have ht0 : t ≠ 0 := fun e => hne (by rw [e, Int.mul_zero])
    have e : yD n M (belW c i) i n = XE n M c i n * t := by
      have : XE n M c i i * yD n M (belW c i) i n = XE n M c i i * (XE n M c i n * t) := by rw [hcr]; grind
      exact Int.eq_of_mul_eq_mul_left (by omega) this
    rw [e, absI_mul] at hy
    have h1 : 1 ≤ absI t := by unfold absI; omega
    have h2 : absI (XE n M c i n) * 1 ≤ absI (XE n M c i n) * absI t := Int.mul_le_mul_of_nonneg_left h1 (absI_nonneg _)
    exact absI_le.1 (by omega)

/-! ### What comes out -/
def solV (n : Nat) (M : Mat) (i : Nat) : Int := det n (colU M i fun l => M l n)
theorem Sys.full {i : Nat} (S : Sys n M) (hi : i < n) : det n (MT M (belW n i)) = det n M ∧ yD n M (belW n i) i n = solV n M i := by
  have hT : ∀ l, l < n → belW n i l = true := fun l hl => belW_iff.2 (.inl hl)
  constructor
  · exact det_congr fun r c hr hc => by unfold MT; rw [if_pos (hT r hr)]
  · unfold yD solV
    refine det_congr fun r c hr hc => ?_
    show (if c = i then (if belW n i r then M r n else 0) else MT M (belW n i) r c) = (if c = i then M r n else M r c)
    rw [if_pos (hT r hr)]
    unfold MT
    rw [if_pos (hT r hr)]
theorem Sys.det_ne (S : Sys n M) (hn : 0 < n) : det n M ≠ 0 := by
  rw [← (S.full (i := 0) hn).1]; exact (S.stage n (Nat.le_refl _)).det_ne (Nat.le_refl _) hn
theorem Sys.out (S : Sys n M) {i : Nat} (hi : i < n) : XE n M n i i * solV n M i = XE n M n i n * det n M := by
  have := (S.stage n (Nat.le_refl _)).cross (Nat.le_refl _) hi (Nat.le_refl _) (Nat.le_refl _) (Nat.ne_of_gt hi)
  rwa [(S.full hi).1, (S.full hi).2] at this
theorem Sys.solB (S : Sys n M) {i : Nat} (hi : i < n) : -bC n ≤ solV n M i ∧ solV n M i ≤ bC n := by
  have := S.yB (belW n i) hi
  rw [(S.full hi).2] at this
  exact absI_le.1 this
theorem Sys.dB (S : Sys n M) : -bE n ≤ det n M ∧ det n M ≤ bE n := by
  have := det_bound (B := 8) (by decide) M fun r hr => S.B r hr
  exact absI_le.1 this
/-- The solution solves. -/
theorem Sys.sol (S : Sys n M) {l : Nat} (hl : l < n) : sumN (fun j => M l j * solV n M j) n = det n M * M l n := by
  have s := S.stage n (Nat.le_refl _)
  have hP := s.pC_pos (Nat.le_refl _)
  have h1 := s.wv_M (Nat.le_refl _) (Nat.le_refl _) (Nat.le_refl _) hl
  unfold dot at h1
  rw [sumN] at h1
  have hn : wv (XE n M n) n n n = pC (XE n M n) n := by unfold wv; rw [if_pos rfl]
  have hj : ∀ j, j < n → wv (XE n M n) n n j * det n M = - pC (XE n M n) n * solV n M j := fun j hj => by
    have hd := s.diag hj
    have hq := Int.mul_ediv_cancel' (prodN_dvd (f := fun l => XE n M n l l) hj)
    have ho := S.out hj
    unfold wv
    rw [if_neg (by omega), if_pos hj]
    unfold pC at *
    generalize prodN (fun l => XE n M n l l) n / XE n M n j j = q at *
    rw [← hq]
    grind
  rw [hn] at h1
  have h2 : det n M * (sumN (fun j => M l j * wv (XE n M n) n n j) n + M l n * pC (XE n M n) n) = 0 := by rw [h1, Int.mul_zero]
  rw [Int.mul_add, ← sumN_mul] at h2
  have h3 : sumN (fun j => det n M * (M l j * wv (XE n M n) n n j)) n = sumN (fun j => - pC (XE n M n) n * (M l j * solV n M j)) n := sumN_congr fun j hjn => by
    have := hj j hjn; grind
  rw [h3, sumN_mul] at h2
  have h4 : pC (XE n M n) n * sumN (fun j => M l j * solV n M j) n = pC (XE n M n) n * (det n M * M l n) := by grind
  exact Int.eq_of_mul_eq_mul_left (Int.ne_of_gt hP) h4
end
end Go.Proofs.Ytgamcclfdkpcgaa

set_option linter.unusedVariables false
set_option linter.unusedSimpArgs false
set_option maxRecDepth 10000
namespace Go.Proofs.Ytgamcclfdkpcgaa
open Go Go.Am

/-- A chain: weights in quarters, pay, cost. -/
structure Chn (n : Nat) (w : Mat) (p c : Nat → Int) : Prop where
  w0 : ∀ i j, i < n → j < n → 0 ≤ w i j
  w4 : ∀ i, i < n → sumN (w i) n ≤ 4
  p : ∀ i, i < n → 0 ≤ p i ∧ p i ≤ 1000
  c : ∀ i, i < n → 0 ≤ c i ∧ c i ≤ 100
/-- No set of states is never left. -/
def sndP (n : Nat) (w : Mat) (r : Nat → Bool) : Prop :=
  ∀ S : Nat → Bool, (∀ i, i < n → S i = true → r i = false ∧ sumN (w i) n = 4 ∧ ∀ j, j < n → 0 < w i j → S j = true) → ∀ i, i < n → S i = false
theorem sndP_congr {n : Nat} {w : Mat} {r r' : Nat → Bool} (h : ∀ i, i < n → r i = r' i) (s : sndP n w r) : sndP n w r' :=
  fun S hS => s S fun i hi hs => by rw [h i hi]; exact hS i hi hs
/-- The equations of a rule. -/
def eqM (n : Nat) (w : Mat) (p c : Nat → Int) (r : Nat → Bool) : Mat := fun i j =>
  if r i then (if j = n then p i else if j = i then 1 else 0) else (if j = n then -4 * c i else (if j = i then 4 else 0) - w i j)
theorem term_le' {f : Nat → Int} {n k : Nat} (h : ∀ j, j < n → 0 ≤ f j) (hk : k < n) : f k ≤ sumN f n := by
  have := term_le (f := fun j => if j < n then f j else 0) (n := n) (k := k) (fun j => by show 0 ≤ (if j < n then f j else 0); split; exact h j (by assumption); exact Int.le_refl _) hk
  rw [sumN_congr (g := f) fun j hj => if_pos hj, if_pos hk] at this
  exact this
theorem sys_of {n : Nat} {w : Mat} {p c : Nat → Int} {r : Nat → Bool} (h : Chn n w p c) (hs : sndP n w r) : Sys n (eqM n w p c r) := by
  have hrow : ∀ i, i < n → ∀ j, j < n → eqM n w p c r i j = if r i then (if j = i then 1 else 0) else (if j = i then 4 else 0) - w i j := fun i hi j hj => by
    simp only [eqM, show ¬ j = n by omega, if_false]
  have hT : ∀ i, i < n → r i = true → ∀ S : Nat → Bool, S i = true → sumS n S (eqM n w p c r i) = 1 := fun i hi hr S hS => by
    unfold sumS
    rw [sumN_single hi fun j hj hne => by rw [hrow i hi j hj, if_pos hr, if_neg hne]; simp, if_pos hS, hrow i hi i hi, if_pos hr, if_pos rfl]
  have hF : ∀ i, i < n → r i = false → ∀ S : Nat → Bool, S i = true → sumS n S (eqM n w p c r i) = 4 - sumS n S (w i) := fun i hi hr S hS => by
    have e : sumS n S (eqM n w p c r i) + sumS n S (w i) = sumN (fun j => if j = i then 4 else 0) n := by
      unfold sumS
      rw [← sumN_add]
      refine sumN_congr fun j hj => ?_
      rw [hrow i hi j hj, if_neg (show ¬ r i = true by rw [hr]; decide)]
      by_cases hsj : S j = true
      · rw [if_pos hsj, if_pos hsj]; omega
      · have hji : ¬ j = i := fun e => hsj (by rw [e]; exact hS)
        rw [if_neg hsj, if_neg hsj, if_neg hji]; rfl
    rw [sumN_single hi fun j hj hne => if_neg hne, if_pos rfl] at e
    omega
  have hAll : ∀ f : Nat → Int, sumS n (fun _ => true) f = sumN f n := fun f => sumN_congr fun j _ => if_pos rfl
  have hR : ∀ i, i < n → 0 ≤ sumN (eqM n w p c r i) n := fun i hi => by
    rw [← hAll]
    cases hr : r i with
    | true => rw [hT i hi hr _ rfl]; decide
    | false => rw [hF i hi hr _ rfl, hAll]; have := h.w4 i hi; omega
  refine ⟨fun i j hi hj hne => ?_, hR, fun S hS => ?_, fun i hi => ?_, fun i hi => ?_⟩
  · rw [hrow i hi j hj, if_neg (Ne.symm hne), if_neg (Ne.symm hne)]
    have := h.w0 i j hi hj
    split <;> omega
  · refine Classical.byContradiction fun hno => ?_
    have hle : ∀ i, i < n → S i = true → sumS n S (eqM n w p c r i) ≤ 0 := fun i hi hs => by
      rcases Int.lt_or_le 0 (sumS n S (eqM n w p c r i)) with h1 | h1
      · exact (hno ⟨i, hi, hs, h1⟩).elim
      · exact h1
    obtain ⟨i0, hi0, hs0⟩ := hS
    have := hs S (fun i hi hsi => by
      have h1 := hle i hi hsi
      have hrf : r i = false := by
        cases hr : r i with
        | false => rfl
        | true => rw [hT i hi hr S hsi] at h1; omega
      rw [hF i hi hrf S hsi] at h1
      have h2 := h.w4 i hi
      -- the whole sum is at most 4, the part is at least 4
      have h3 : sumS n S (w i) + sumN (fun j => if S j then 0 else w i j) n = sumN (w i) n := by
        unfold sumS; rw [← sumN_add]
        refine sumN_congr fun j hj => ?_
        by_cases hsj : S j = true <;> simp [hsj]
      have h4 : ∀ j, j < n → 0 ≤ (if S j then 0 else w i j) := fun j hj => by
        have := h.w0 i j hi hj; split <;> omega
      have h5 : 0 ≤ sumN (fun j => if S j then 0 else w i j) n := by
        have := sumN_le (f := fun _ => 0) (g := fun j => if S j then 0 else w i j) (n := n) fun j hj => h4 j hj
        rwa [sumN_zero] at this
      refine ⟨hrf, by omega, fun j hj hw => ?_⟩
      have h6 := term_le' h4 hj
      cases hsj : S j with
      | true => rfl
      | false => simp only [hsj, Bool.false_eq_true, if_false] at h6; omega) i0 hi0
    rw [hs0] at this; cases this
  · cases hr : r i with
    | true =>
      have : sumN (fun j => absI (eqM n w p c r i j)) n = 1 := by
        rw [sumN_single hi fun j hj hne => by rw [hrow i hi j hj, hr]; simp [hne, absI], hrow i hi i hi, hr]; simp [absI]
      omega
    | false =>
      have h1 : sumN (fun j => absI (eqM n w p c r i j)) n ≤ sumN (fun j => (if j = i then 4 else 0) + w i j) n := sumN_le fun j hj => by
        rw [hrow i hi j hj, hr]
        have := h.w0 i j hi hj
        unfold absI
        by_cases hji : j = i
        · simp only [hji, if_true, Bool.false_eq_true, if_false] at this ⊢; omega
        · simp only [hji, Bool.false_eq_true, if_false]; omega
      rw [sumN_add, sumN_single hi fun j hj hne => if_neg hne, if_pos rfl] at h1
      have := h.w4 i hi
      omega
  · have h1 := h.p i hi
    have h2 := h.c i hi
    unfold eqM
    rw [if_pos rfl, if_pos rfl]
    unfold absI
    split <;> omega

/-- The values of a rule, over a common denominator. -/
structure Vals (n : Nat) (w : Mat) (p c : Nat → Int) (r : Nat → Bool) (V : Nat → Int) (D : Int) : Prop where
  pos : 0 < D
  stop : ∀ i, i < n → r i = true → V i = p i * D
  go : ∀ i, i < n → r i = false → 4 * V i = sumN (fun j => w i j * V j) n - 4 * c i * D
def DN (n : Nat) (w : Mat) (p c : Nat → Int) (r : Nat → Bool) : Int := absI (det n (eqM n w p c r))
def VN (n : Nat) (w : Mat) (p c : Nat → Int) (r : Nat → Bool) (i : Nat) : Int := if det n (eqM n w p c r) < 0 then - solV n (eqM n w p c r) i else solV n (eqM n w p c r) i
section
variable {n : Nat} {w : Mat} {p c : Nat → Int} {r : Nat → Bool}
theorem vals_of (h : Chn n w p c) (hs : sndP n w r) (hn : 0 < n) : Vals n w p c r (VN n w p c r) (DN n w p c r) := by
  have S := sys_of h hs
  have hne := S.det_ne hn
  have hD : 0 < DN n w p c r := by unfold DN absI; omega
  have heq : ∀ i, i < n → sumN (fun j => eqM n w p c r i j * VN n w p c r j) n = eqM n w p c r i n * DN n w p c r := fun i hi => by
    have h1 := S.sol hi
    unfold VN DN absI
    by_cases hneg : det n (eqM n w p c r) < 0
    · simp only [hneg, if_true]
      have : sumN (fun j => eqM n w p c r i j * - solV n (eqM n w p c r) j) n = -1 * sumN (fun j => eqM n w p c r i j * solV n (eqM n w p c r) j) n := by
        rw [← sumN_mul]; exact sumN_congr fun j _ => by grind
      rw [this, h1, show ((det n (eqM n w p c r)).natAbs : Int) = - det n (eqM n w p c r) by omega]; grind
    · simp only [hneg, if_false]
      rw [h1, show ((det n (eqM n w p c r)).natAbs : Int) = det n (eqM n w p c r) by omega, Int.mul_comm]
  refine ⟨hD, fun i hi hr => ?_, fun i hi hr => ?_⟩
  · have h1 := heq i hi
    rw [sumN_single hi fun j hj hne => by unfold eqM; rw [hr, if_pos rfl, if_neg (by omega), if_neg hne, Int.zero_mul]] at h1
    unfold eqM at h1
    rw [hr] at h1
    simp only [if_true, show ¬ i = n by omega, if_false] at h1
    omega
  · have h1 := heq i hi
    have h2 : sumN (fun j => eqM n w p c r i j * VN n w p c r j) n + sumN (fun j => w i j * VN n w p c r j) n = sumN (fun j => if j = i then 4 * VN n w p c r i else 0) n := by
      rw [← sumN_add]
      refine sumN_congr fun j hj => ?_
      unfold eqM
      rw [hr]
      simp only [Bool.false_eq_true, if_false, show ¬ j = n by omega]
      by_cases hji : j = i
      · subst hji; rw [if_pos rfl, if_pos rfl]; grind
      · rw [if_neg hji, if_neg hji]; grind
    rw [h1, sumN_single hi fun j hj hne => if_neg hne, if_pos rfl] at h2
    have h3 : eqM n w p c r i n = -4 * c i := by unfold eqM; rw [hr]; simp
    rw [h3] at h2
    grind
/-- The largest value is taken where one leaves. -/
theorem exists_max (f : Nat → Int) : ∀ {n : Nat}, 0 < n → ∃ k, k < n ∧ ∀ j, j < n → f j ≤ f k
  | 1, _ => ⟨0, by omega, fun j hj => by rw [show j = 0 by omega]; exact Int.le_refl _⟩
  | n + 2, _ => by
    obtain ⟨k, hk, h⟩ := exists_max f (show 0 < n + 1 by omega)
    by_cases hc : f k ≤ f (n + 1)
    · exact ⟨n + 1, by omega, fun j hj => by
        by_cases hj' : j < n + 1
        · have := h j hj'; omega
        · rw [show j = n + 1 by omega]; exact Int.le_refl _⟩
    · exact ⟨k, by omega, fun j hj => by
        by_cases hj' : j < n + 1
        · exact h j hj'
        · rw [show j = n + 1 by omega]; omega⟩
/-- All of a mean at the maximum: all its parts are. -/
theorem mean_max (h : Chn n w p c) {f : Nat → Int} {i : Nat} (hi : i < n) {m : Int} (hm : 0 ≤ m) (hf : ∀ j, j < n → 0 < w i j → f j ≤ m) :
    sumN (fun j => w i j * f j) n ≤ 4 * m ∧ (4 * m ≤ sumN (fun j => w i j * f j) n → (0 < m → sumN (w i) n = 4) ∧ ∀ j, j < n → 0 < w i j → f j = m) := by
  have h0 : ∀ j, j < n → 0 ≤ w i j * (m - f j) := fun j hj => by
    have h1 := h.w0 i j hi hj
    rcases Int.lt_or_le 0 (w i j) with h2 | h2
    · exact Int.mul_nonneg h1 (by have := hf j hj h2; omega)
    · rw [show w i j = 0 by omega, Int.zero_mul]; exact Int.le_refl _
  have h1 : sumN (fun j => w i j * (m - f j)) n + sumN (fun j => w i j * f j) n = m * sumN (w i) n := by
    rw [← sumN_add, ← sumN_mul]; exact sumN_congr fun j _ => by grind
  have h2 : 0 ≤ sumN (fun j => w i j * (m - f j)) n := by
    have := sumN_le (f := fun _ => 0) (g := fun j => w i j * (m - f j)) (n := n) h0
    rwa [sumN_zero] at this
  have h3 := h.w4 i hi
  have h4 : m * sumN (w i) n ≤ m * 4 := Int.mul_le_mul_of_nonneg_left h3 hm
  refine ⟨by omega, fun h5 => ⟨fun hm0 => ?_, fun j hj hw => ?_⟩⟩
  · have : m * 4 ≤ m * sumN (w i) n := by omega
    have := Int.le_of_mul_le_mul_left this hm0
    omega
  · have h6 := term_le' h0 hj
    have h7 : w i j * (m - f j) = 0 := by have := h0 j hj; omega
    rcases Int.mul_eq_zero.1 h7 with h8 | h8
    · omega
    · omega
theorem maxp (h : Chn n w p c) (hs : sndP n w r) {f : Nat → Int} (h1 : ∀ i, i < n → r i = true → f i ≤ 0) (h2 : ∀ i, i < n → r i = false → 4 * f i ≤ sumN (fun j => w i j * f j) n) : ∀ i, i < n → f i ≤ 0 := by
  intro i hi
  obtain ⟨k, hk, hmax⟩ := exists_max f (show 0 < n by omega)
  rcases Int.lt_or_le 0 (f k) with hpos | hle
  · have := hs (fun j => decide (f j = f k)) (fun j hj hsj => by
      have hfj : f j = f k := by simpa using hsj
      have hrj : r j = false := by
        cases hr : r j with
        | false => rfl
        | true => have := h1 j hj hr; omega
      have h3 := h2 j hj hrj
      obtain ⟨h4, h5⟩ := mean_max h (f := f) hj (m := f k) (by omega) fun l hl _ => hmax l hl
      obtain ⟨h6, h7⟩ := h5 (by omega)
      exact ⟨hrj, h6 hpos, fun l hl hw => by simp [h7 l hl hw]⟩) k hk
    simp at this
  · have := hmax i hi; omega
/-- Values that stopping or going on cannot raise. -/
def sup (n : Nat) (w : Mat) (p c : Nat → Int) (V : Nat → Int) (D : Int) : Prop := ∀ i, i < n → p i * D ≤ V i ∧ sumN (fun j => w i j * V j) n - 4 * c i * D ≤ 4 * V i
theorem sumN_comb (a b : Int) (f g k : Nat → Int) : ∀ n, sumN (fun j => k j * (a * f j + b * g j)) n = a * sumN (fun j => k j * f j) n + b * sumN (fun j => k j * g j) n
  | 0 => by simp [sumN]
  | n + 1 => by simp only [sumN, sumN_comb a b f g k n]; grind
theorem dom_alg {x' x A B c D D' : Int} (h1 : (A - 4 * c * D) * D' ≤ 4 * x * D') (h2 : 4 * x' = B - 4 * c * D') : 4 * (D * x' + -D' * x) ≤ D * B + -D' * A := by
  have e1 : 4 * (D * x' + -D' * x) = D * (4 * x') + -(4 * x * D') := by grind
  have e3 : D * (B - 4 * c * D') - (A - 4 * c * D) * D' = D * B + -D' * A := by grind
  rw [e1, h2]; omega
theorem go_alg {x' x A B c D D' : Int} (h1 : 4 * x = A - 4 * c * D) (h2 : 4 * x' = B - 4 * c * D') : 4 * (D' * x + -D * x') = D' * A + -D * B := by
  have e1 : 4 * (D' * x + -D * x') = D' * (4 * x) + -D * (4 * x') := by grind
  rw [e1, h1, h2]; grind
theorem go_alg2 {x' x A B c D D' : Int} (hD' : 0 < D') (h1 : 4 * x < A - 4 * c * D) (h2 : 4 * x' = B - 4 * c * D') : 4 * (D' * x + -D * x') < D' * A + -D * B := by
  have e1 : 4 * (D' * x + -D * x') = D' * (4 * x) + -D * (4 * x') := by grind
  have h3 := Int.mul_lt_mul_of_pos_left h1 hD'
  have e2 : D' * (A - 4 * c * D) + -D * (B - 4 * c * D') = D' * A + -D * B := by grind
  rw [e1, h2]; omega
theorem dom (h : Chn n w p c) (hs : sndP n w r) {V V' : Nat → Int} {D D' : Int} (hD : 0 < D) (hv : Vals n w p c r V' D') (hu : sup n w p c V D) : ∀ i, i < n → V' i * D ≤ V i * D' := by
  have hD' := hv.pos
  have := maxp h hs (f := fun i => D * V' i + -D' * V i) (fun i hi hr => ?_) (fun i hi hr => ?_)
  · intro i hi; have := this i hi; grind
  · have h1 := Int.mul_le_mul_of_nonneg_right (hu i hi).1 (Int.le_of_lt hD')
    rw [hv.stop i hi hr]
    grind
  · have h1 := Int.mul_le_mul_of_nonneg_right (hu i hi).2 (Int.le_of_lt hD')
    have h2 := hv.go i hi hr
    rw [sumN_comb]
    exact dom_alg h1 h2
/-- The order of values. -/
def leV (n : Nat) (V : Nat → Int) (D : Int) (V' : Nat → Int) (D' : Int) : Prop := ∀ i, i < n → V i * D' ≤ V' i * D
theorem leV.trans {V V' V'' : Nat → Int} {D D' D'' : Int} (hD : 0 < D) (hD' : 0 < D') (hD'' : 0 < D'') (h1 : leV n V D V' D') (h2 : leV n V' D' V'' D'') : leV n V D V'' D'' := fun i hi => by
  have a := Int.mul_le_mul_of_nonneg_right (h1 i hi) (Int.le_of_lt hD'')
  have b := Int.mul_le_mul_of_nonneg_right (h2 i hi) (Int.le_of_lt hD)
  have e : V i * D'' * D' ≤ V'' i * D * D' := by grind
  exact Int.le_of_mul_le_mul_right e hD'
theorem better_stop (h : Chn n w p c) (hs : sndP n w r) {V : Nat → Int} {D : Int} (hv : Vals n w p c r V D) {i : Nat} (hi : i < n) (hr : r i = false) (hlt : V i < p i * D) {r' : Nat → Bool} (hr' : ∀ j, j < n → r' j = (r j || decide (j = i))) :
    sndP n w r' ∧ ∀ V' D', Vals n w p c r' V' D' → leV n V D V' D' ∧ V i * D' < V' i * D := by
  have hD := hv.pos
  have hs' : sndP n w r' := fun S hS => hs S fun j hj hsj => by
    obtain ⟨a, b⟩ := hS j hj hsj
    rw [hr' j hj] at a
    simp only [Bool.or_eq_false_iff] at a
    exact ⟨a.1, b⟩
  refine ⟨hs', fun V' D' hv' => ?_⟩
  have hD' := hv'.pos
  have hti : r' i = true := by rw [hr' i hi]; simp
  have hlt2 := Int.mul_lt_mul_of_pos_right hlt hD'
  have hVi := hv'.stop i hi hti
  refine ⟨fun j hj => ?_, by rw [hVi]; grind⟩
  have := maxp h hs' (f := fun i => D' * V i + -D * V' i) (fun j hj hrj => ?_) (fun j hj hrj => ?_) j hj
  · grind
  · rw [hv'.stop j hj hrj]
    rw [hr' j hj] at hrj
    by_cases hji : j = i
    · subst hji; grind
    · have : r j = true := by simpa [hji] using hrj
      rw [hv.stop j hj this]; grind
  · have h2 := hv'.go j hj hrj
    rw [hr' j hj] at hrj
    simp only [Bool.or_eq_false_iff] at hrj
    have h3 := hv.go j hj hrj.1
    rw [sumN_comb]
    exact Int.le_of_eq (go_alg h3 h2)
theorem sumN_le_max {V : Nat → Int} {m : Int} {i : Nat} (h : Chn n w p c) (hi : i < n) (h4 : sumN (w i) n = 4) (hf : ∀ j, j < n → 0 < w i j → V j ≤ m) : sumN (fun j => w i j * V j) n ≤ 4 * m := by
  have h1 : sumN (fun j => w i j * V j) n ≤ sumN (fun j => m * w i j) n := sumN_le fun j hj => by
    have h0 := h.w0 i j hi hj
    rcases Int.lt_or_le 0 (w i j) with h2 | h2
    · rw [Int.mul_comm]; exact Int.mul_le_mul_of_nonneg_right (hf j hj h2) h0
    · rw [show w i j = 0 by omega]; simp
  rw [sumN_mul, h4] at h1
  omega
theorem sumN_sub_max {V : Nat → Int} {m : Int} {i : Nat} (h : Chn n w p c) (hi : i < n) (h4 : sumN (w i) n = 4) (hf : ∀ j, j < n → 0 < w i j → V j ≤ m) (hge : 4 * m ≤ sumN (fun j => w i j * V j) n) : ∀ j, j < n → 0 < w i j → V j = m := by
  intro j hj hw
  have h0 : ∀ j, j < n → 0 ≤ w i j * (m - V j) := fun j hj => by
    have h1 := h.w0 i j hi hj
    rcases Int.lt_or_le 0 (w i j) with h2 | h2
    · exact Int.mul_nonneg h1 (by have := hf j hj h2; omega)
    · rw [show w i j = 0 by omega, Int.zero_mul]; exact Int.le_refl _
  have h1 : sumN (fun j => w i j * (m - V j)) n + sumN (fun j => w i j * V j) n = m * sumN (w i) n := by
    rw [← sumN_add, ← sumN_mul]; exact sumN_congr fun j _ => by grind
  have h6 := term_le' h0 hj
  have h7 : w i j * (m - V j) = 0 := by have := h0 j hj; rw [h4] at h1; omega
  rcases Int.mul_eq_zero.1 h7 with h8 | h8
  · omega
  · omega
theorem better_go (h : Chn n w p c) (hs : sndP n w r) {V : Nat → Int} {D : Int} (hv : Vals n w p c r V D) {i : Nat} (hi : i < n) (hr : r i = true) (hlt : 4 * V i < sumN (fun j => w i j * V j) n - 4 * c i * D) {r' : Nat → Bool} (hr' : ∀ j, j < n → r' j = (r j && !decide (j = i))) :
    sndP n w r' ∧ ∀ V' D', Vals n w p c r' V' D' → leV n V D V' D' ∧ V i * D' < V' i * D := by
  have hD := hv.pos
  have hs' : sndP n w r' := by
    intro S hS k hk
    refine Classical.byContradiction fun hsk => ?_
    have hsk : S k = true := by simpa using hsk
    -- the largest value in the set
    obtain ⟨m, hm, hmax⟩ := exists_max (fun j => if S j then V j else -1 + (if V k ≤ 0 then V k else 0)) (show 0 < n by omega)
    have hSm : S m = true := by
      refine Classical.byContradiction fun hc => ?_
      have := hmax k hk
      simp only [hsk, if_true, hc, Bool.false_eq_true, if_false] at this
      split at this <;> omega
    have hle : ∀ j, j < n → S j = true → V j ≤ V m := fun j hj hsj => by
      have := hmax j hj
      simpa only [hsj, hSm, if_true] using this
    -- where it is taken, all goes on to where it is taken
    have hnon : ∀ j, j < n → S j = true → r' j = false ∧ sumN (w j) n = 4 ∧ ∀ l, l < n → 0 < w j l → S l = true := hS
    have hstep : ∀ j, j < n → S j = true → V j = V m → j ≠ i → r j = false ∧ sumN (w j) n = 4 ∧ ∀ l, l < n → 0 < w j l → (S l = true ∧ V l = V m) := by
      intro j hj hsj hvj hne
      obtain ⟨a, b, d⟩ := hS j hj hsj
      have hrj : r j = false := by rw [hr' j hj] at a; simpa [hne] using a
      refine ⟨hrj, b, fun l hl hw => ⟨d l hl hw, ?_⟩⟩
      have h2 := hv.go j hj hrj
      have h3 := sumN_sub_max (w := w) (V := V) (m := V m) h hj b fun l hl hw => hle l hl (d l hl hw)
      have hc := (h.c j hj).1
      have h4 : 0 ≤ 4 * c j * D := Int.mul_nonneg (by omega) (by omega)
      exact h3 (by omega) l hl hw
    by_cases hex : S i = true ∧ V i = V m
    · obtain ⟨a, b, d⟩ := hS i hi hex.1
      have h3 := sumN_le_max (w := w) (V := V) (m := V m) h hi b fun l hl hw => hle l hl (d l hl hw)
      have hc := (h.c i hi).1
      have h4 : 0 ≤ 4 * c i * D := Int.mul_nonneg (by omega) (by omega)
      omega
    · have := hs (fun j => S j && decide (V j = V m)) (fun j hj hsj => by
        simp only [Bool.and_eq_true, decide_eq_true_eq] at hsj
        obtain ⟨a, b, d⟩ := hstep j hj hsj.1 hsj.2 (fun e => hex (e ▸ hsj))
        exact ⟨a, b, fun l hl hw => by simp [d l hl hw]⟩) m hm
      simp [hSm] at this
  refine ⟨hs', fun V' D' hv' => ?_⟩
  have hD' := hv'.pos
  have hti : r' i = false := by rw [hr' i hi]; simp
  have hgi := hv'.go i hi hti
  have hal := go_alg2 hD' hlt hgi
  have hall := maxp h hs' (f := fun i => D' * V i + -D * V' i) (fun j hj hrj => ?_) (fun j hj hrj => ?_)
  · refine ⟨fun j hj => by have := hall j hj; grind, ?_⟩
    have h5 : D' * sumN (fun j => w i j * V j) n + -D * sumN (fun j => w i j * V' j) n ≤ 0 := by
      rw [← sumN_comb]
      have := sumN_le (f := fun j => w i j * (D' * V j + -D * V' j)) (g := fun _ => 0) (n := n) fun j hj => by
        have h6 := h.w0 i j hi hj
        have h7 := Int.mul_nonneg h6 (show 0 ≤ -(D' * V j + -D * V' j) by have := hall j hj; omega)
        have e : w i j * -(D' * V j + -D * V' j) = -(w i j * (D' * V j + -D * V' j)) := by grind
        omega
      rwa [sumN_zero] at this
    grind
  · rw [hv'.stop j hj hrj]
    rw [hr' j hj] at hrj
    simp only [Bool.and_eq_true, Bool.not_eq_true', decide_eq_false_iff_not] at hrj
    rw [hv.stop j hj hrj.1]; grind
  · by_cases hji : j = i
    · subst hji; rw [sumN_comb]; exact Int.le_of_lt hal
    · rw [hr' j hj] at hrj
      have hrj2 : r j = false := by simpa [hji] using hrj
      have h2 := hv'.go j hj (by rw [hr' j hj]; exact hrj)
      have h3 := hv.go j hj hrj2
      rw [sumN_comb]
      exact Int.le_of_eq (go_alg h3 h2)
end
end Go.Proofs.Ytgamcclfdkpcgaa

set_option linter.unusedVariables false
set_option linter.unusedSimpArgs false
set_option maxRecDepth 10000
namespace Go.Proofs.Ytgamcclfdkpcgaa
open Go Go.Am

section
variable {n : Nat} {w : Mat} {p c : Nat → Int} {r : Nat → Bool}
theorem bits_ex (r : Nat → Bool) : ∀ n, ∃ x, x < 2 ^ n ∧ ∀ i, i < n → Nat.testBit x i = r i
  | 0 => ⟨0, by simp, fun i h => by omega⟩
  | n + 1 => by
    obtain ⟨x, hx, h⟩ := bits_ex r n
    cases hr : r n with
    | false =>
      refine ⟨x, by rw [Nat.pow_succ]; omega, fun i hi => ?_⟩
      by_cases hin : i < n
      · exact h i hin
      · rw [show i = n by omega, hr]; exact Nat.testBit_lt_two_pow hx
    | true =>
      refine ⟨2 ^ n + x, by rw [Nat.pow_succ]; omega, fun i hi => ?_⟩
      by_cases hin : i < n
      · rw [Nat.testBit_two_pow_add_gt hin]; exact h i hin
      · rw [show i = n by omega, hr, Nat.testBit_two_pow_add_eq, Nat.testBit_lt_two_pow hx]; rfl
theorem filter_lt {α : Type} {P Q : α → Bool} {l : List α} (h : ∀ x ∈ l, P x = true → Q x = true) {y : α} (hy : y ∈ l) (h1 : P y = false) (h2 : Q y = true) : (l.filter P).length < (l.filter Q).length := by
  induction l with
  | nil => cases hy
  | cons a l ih =>
    have hle : ∀ l : List α, (∀ x ∈ l, P x = true → Q x = true) → (l.filter P).length ≤ (l.filter Q).length := by
      intro l hl
      induction l with
      | nil => simp
      | cons b l ih2 =>
        have := ih2 fun x hx => hl x (by simp [hx])
        have hb := hl b (by simp)
        cases hp : P b with
        | false => cases hq : Q b <;> simp [List.filter_cons, hp, hq] <;> omega
        | true => simp [List.filter_cons, hp, hb hp]; omega
    rcases List.mem_cons.1 hy with rfl | hy'
    · have := hle l fun x hx => h x (by simp [hx])
      simp [List.filter_cons, h1, h2]; omega
    · have := ih (fun x hx => h x (by simp [hx])) hy'
      have hb := h a (by simp)
      cases hp : P a with
      | false => cases hq : Q a <;> simp [List.filter_cons, hp, hq] <;> omega
      | true => simp [List.filter_cons, hp, hb hp]; omega
def ruleB (x : Nat) : Nat → Bool := fun i => x.testBit i
open Classical in
noncomputable def sndB (n : Nat) (w : Mat) (x : Nat) : Bool := decide (sndP n w (ruleB x))
open Classical in
theorem sndB_iff {x : Nat} : sndB n w x = true ↔ sndP n w (ruleB x) := by unfold sndB; exact decide_eq_true_iff
open Classical in
noncomputable def supB (n : Nat) (w : Mat) (p c : Nat → Int) (x : Nat) : Bool := decide (sup n w p c (VN n w p c (ruleB x)) (DN n w p c (ruleB x)))
open Classical in
theorem supB_iff {x : Nat} : supB n w p c x = true ↔ sup n w p c (VN n w p c (ruleB x)) (DN n w p c (ruleB x)) := by unfold supB; exact decide_eq_true_iff
open Classical in
noncomputable def below (n : Nat) (w : Mat) (p c : Nat → Int) (y x : Nat) : Bool := decide (sndP n w (ruleB x) ∧ leV n (VN n w p c (ruleB x)) (DN n w p c (ruleB x)) (VN n w p c (ruleB y)) (DN n w p c (ruleB y)))
open Classical in
theorem below_iff {x y : Nat} : below n w p c y x = true ↔ (sndP n w (ruleB x) ∧ leV n (VN n w p c (ruleB x)) (DN n w p c (ruleB x)) (VN n w p c (ruleB y)) (DN n w p c (ruleB y))) := by unfold below; exact decide_eq_true_iff
noncomputable def cnt (n : Nat) (w : Mat) (p c : Nat → Int) (y : Nat) : Nat := ((List.range (2 ^ n)).filter (below n w p c y)).length
/-- A rule that is not best can be bettered. -/
theorem better (h : Chn n w p c) (hn : 0 < n) {x : Nat} (hs : sndP n w (ruleB x)) (hb : ¬ sup n w p c (VN n w p c (ruleB x)) (DN n w p c (ruleB x))) :
    ∃ y, y < 2 ^ n ∧ sndP n w (ruleB y) ∧ leV n (VN n w p c (ruleB x)) (DN n w p c (ruleB x)) (VN n w p c (ruleB y)) (DN n w p c (ruleB y)) ∧
      ¬ leV n (VN n w p c (ruleB y)) (DN n w p c (ruleB y)) (VN n w p c (ruleB x)) (DN n w p c (ruleB x)) := by
  have hv := vals_of h hs hn
  have fin : ∀ (r' : Nat → Bool) (i : Nat), i < n → (∀ r'' : Nat → Bool, (∀ j, j < n → r'' j = r' j) → sndP n w r'' ∧ ∀ V' D', Vals n w p c r'' V' D' → leV n (VN n w p c (ruleB x)) (DN n w p c (ruleB x)) V' D' ∧ VN n w p c (ruleB x) i * D' < V' i * DN n w p c (ruleB x)) →
      ∃ y, y < 2 ^ n ∧ sndP n w (ruleB y) ∧ leV n (VN n w p c (ruleB x)) (DN n w p c (ruleB x)) (VN n w p c (ruleB y)) (DN n w p c (ruleB y)) ∧
      ¬ leV n (VN n w p c (ruleB y)) (DN n w p c (ruleB y)) (VN n w p c (ruleB x)) (DN n w p c (ruleB x)) := by
    intro r' i hi hgo
    obtain ⟨y, hy, hyb⟩ := bits_ex r' n
    obtain ⟨g1, g2⟩ := hgo (ruleB y) hyb
    obtain ⟨g3, g4⟩ := g2 _ _ (vals_of h g1 hn)
    exact ⟨y, hy, g1, g3, fun hl => by have := hl i hi; omega⟩
  have : ∃ i, i < n ∧ ¬ (p i * DN n w p c (ruleB x) ≤ VN n w p c (ruleB x) i ∧ sumN (fun j => w i j * VN n w p c (ruleB x) j) n - 4 * c i * DN n w p c (ruleB x) ≤ 4 * VN n w p c (ruleB x) i) := by
    refine Classical.byContradiction fun hno => hb fun i hi => ?_
    exact Classical.byContradiction fun h2 => hno ⟨i, hi, h2⟩
  obtain ⟨i, hi, hbad⟩ := this
  cases hr : ruleB x i with
  | false =>
    have h1 := hv.go i hi hr
    refine fin (fun j => ruleB x j || decide (j = i)) i hi fun r'' hr'' => better_stop h hs hv hi hr ?_ hr''
    omega
  | true =>
    have h1 := hv.stop i hi hr
    refine fin (fun j => ruleB x j && !decide (j = i)) i hi fun r'' hr'' => better_go h hs hv hi hr ?_ hr''
    omega
theorem best_ex (h : Chn n w p c) (hn : 0 < n) : ∃ x, x < 2 ^ n ∧ sndP n w (ruleB x) ∧ sup n w p c (VN n w p c (ruleB x)) (DN n w p c (ruleB x)) := by
  have start : ∃ x, x < 2 ^ n ∧ sndP n w (ruleB x) := by
    obtain ⟨x, hx, hb⟩ := bits_ex (fun _ => true) n
    refine ⟨x, hx, fun S hS i hi => ?_⟩
    cases hsi : S i with
    | false => rfl
    | true => have := (hS i hi hsi).1; rw [ruleB, hb i hi] at this; cases this
  have go : ∀ k x, x < 2 ^ n → sndP n w (ruleB x) → 2 ^ n - cnt n w p c x ≤ k → ∃ x, x < 2 ^ n ∧ sndP n w (ruleB x) ∧ sup n w p c (VN n w p c (ruleB x)) (DN n w p c (ruleB x)) := by
    intro k
    induction k with
    | zero =>
      intro x hx hs hk
      refine Classical.byContradiction fun hno => ?_
      have hb : ¬ sup n w p c (VN n w p c (ruleB x)) (DN n w p c (ruleB x)) := fun hb => hno ⟨x, hx, hs, hb⟩
      obtain ⟨y, hy, hys, hle, hnl⟩ := better h hn hs hb
      have hdx := (vals_of h hs hn).pos
      have hdy := (vals_of h hys hn).pos
      have hlt : cnt n w p c x < cnt n w p c y := by
        refine filter_lt (y := y) (fun z hz hb => ?_) (List.mem_range.2 hy) ?_ ?_
        · obtain ⟨z1, z2⟩ := below_iff.1 hb
          exact below_iff.2 ⟨z1, z2.trans (vals_of h z1 hn).pos hdx hdy hle⟩
        · refine Bool.eq_false_iff.2 fun hb => hnl (below_iff.1 hb).2
        · exact below_iff.2 ⟨hys, fun i _ => Int.le_refl _⟩
      have : cnt n w p c y ≤ 2 ^ n := by
        have := List.length_filter_le (below n w p c y) (List.range (2 ^ n))
        rwa [List.length_range] at this
      omega
    | succ k ih =>
      intro x hx hs hk
      by_cases hb : sup n w p c (VN n w p c (ruleB x)) (DN n w p c (ruleB x))
      · exact ⟨x, hx, hs, hb⟩
      · obtain ⟨y, hy, hys, hle, hnl⟩ := better h hn hs hb
        have hdx := (vals_of h hs hn).pos
        have hdy := (vals_of h hys hn).pos
        have hlt : cnt n w p c x < cnt n w p c y := by
          refine filter_lt (y := y) (fun z hz hb => ?_) (List.mem_range.2 hy) ?_ ?_
          · obtain ⟨z1, z2⟩ := below_iff.1 hb
            exact below_iff.2 ⟨z1, z2.trans (vals_of h z1 hn).pos hdx hdy hle⟩
          · refine Bool.eq_false_iff.2 fun hb => hnl (below_iff.1 hb).2
          · exact below_iff.2 ⟨hys, fun i _ => Int.le_refl _⟩
        exact ih y hy hys (by omega)
  obtain ⟨x, hx, hs⟩ := start
  exact go _ x hx hs (Nat.le_refl _)

/-- Best values, over a common denominator. -/
structure Bst (n : Nat) (w : Mat) (p c : Nat → Int) (V : Nat → Int) (D : Int) : Prop where
  pos : 0 < D
  sup : sup n w p c V D
  rule : ∃ r, sndP n w r ∧ Vals n w p c r V D
theorem Bst.of {x : Nat} (h : Chn n w p c) (hn : 0 < n) (h1 : sndP n w (ruleB x)) (h2 : Go.Proofs.Ytgamcclfdkpcgaa.sup n w p c (VN n w p c (ruleB x)) (DN n w p c (ruleB x))) : Bst n w p c (VN n w p c (ruleB x)) (DN n w p c (ruleB x)) :=
  ⟨(vals_of h h1 hn).pos, h2, _, h1, vals_of h h1 hn⟩
theorem Bst.dom (h : Chn n w p c) {V V' : Nat → Int} {D D' : Int} (b : Bst n w p c V D) {r : Nat → Bool} (hs : sndP n w r) (hv : Vals n w p c r V' D') : ∀ i, i < n → V' i * D ≤ V i * D' := Go.Proofs.Ytgamcclfdkpcgaa.dom h hs b.pos hv b.sup
theorem Bst.le_sup (h : Chn n w p c) {V V' : Nat → Int} {D D' : Int} (b : Bst n w p c V D) (hD' : 0 < D') (hu : Go.Proofs.Ytgamcclfdkpcgaa.sup n w p c V' D') : ∀ i, i < n → V i * D' ≤ V' i * D := by
  obtain ⟨r, hs, hv⟩ := b.rule
  exact Go.Proofs.Ytgamcclfdkpcgaa.dom h hs hD' hv hu
theorem Bst.unique (h : Chn n w p c) {V V' : Nat → Int} {D D' : Int} (b : Bst n w p c V D) (b' : Bst n w p c V' D') : ∀ i, i < n → V i * D' = V' i * D := fun i hi => by
  have h1 := b.le_sup h b'.pos b'.sup i hi
  have h2 := b'.le_sup h b.pos b.sup i hi
  omega
/-- The rule that stops where the value is Pay. -/
theorem Bst.payRule (h : Chn n w p c) {V : Nat → Int} {D : Int} (b : Bst n w p c V D) {q : Nat → Bool} (hq : ∀ i, i < n → (q i = true ↔ V i = p i * D)) : sndP n w q ∧ Vals n w p c q V D := by
  obtain ⟨r, hs, hv⟩ := b.rule
  have hrq : ∀ i, i < n → r i = true → q i = true := fun i hi hr => (hq i hi).2 (hv.stop i hi hr)
  have hqr : ∀ i, i < n → q i = false → r i = false := fun i hi hqf => by
    cases hr : r i with
    | false => rfl
    | true => rw [hrq i hi hr] at hqf; cases hqf
  refine ⟨fun S hS => hs S fun i hi hsi => ?_, b.pos, fun i hi h1 => (hq i hi).1 h1, fun i hi h1 => hv.go i hi (hqr i hi h1)⟩
  obtain ⟨a, d⟩ := hS i hi hsi
  exact ⟨hqr i hi a, d⟩
/-- Two rules' values over denominators: they are the same fractions if the rule is the same. -/
theorem Vals.unique (h : Chn n w p c) {r : Nat → Bool} (hs : sndP n w r) {V V' : Nat → Int} {D D' : Int} (a : Vals n w p c r V D) (b : Vals n w p c r V' D') : ∀ i, i < n → V i * D' = V' i * D := by
  have one : ∀ {V V' : Nat → Int} {D D' : Int}, Vals n w p c r V D → Vals n w p c r V' D' → ∀ i, i < n → D' * V i + -D * V' i ≤ 0 := fun a b => maxp h hs (fun i hi hr => by rw [a.stop i hi hr, b.stop i hi hr]; grind) (fun i hi hr => by
    rw [sumN_comb]; exact Int.le_of_eq (go_alg (a.go i hi hr) (b.go i hi hr)))
  intro i hi
  have h1 := one a b i hi
  have h2 := one b a i hi
  have e1 : D' * V i + -D * V' i = V i * D' - V' i * D := by rw [Int.neg_mul, Int.mul_comm D', Int.mul_comm D]; rfl
  have e2 : D * V' i + -D' * V i = V' i * D - V i * D' := by rw [Int.neg_mul, Int.mul_comm D', Int.mul_comm D]; rfl
  omega
theorem Vals.congr {r r' : Nat → Bool} (hr : ∀ i, i < n → r i = r' i) {V : Nat → Int} {D : Int} (a : Vals n w p c r V D) : Vals n w p c r' V D :=
  ⟨a.pos, fun i hi h => a.stop i hi (by rw [hr i hi]; exact h), fun i hi h => a.go i hi (by rw [hr i hi]; exact h)⟩
/-- Bounds. -/
theorem VN_b (h : Chn n w p c) (hs : sndP n w r) {i : Nat} (hi : i < n) : -bC n ≤ VN n w p c r i ∧ VN n w p c r i ≤ bC n := by
  have := (sys_of h hs).solB hi
  unfold VN; split <;> omega
theorem DN_b (h : Chn n w p c) (hs : sndP n w r) : DN n w p c r ≤ bE n := by
  have := (sys_of h hs).dB
  unfold DN absI; omega
end
theorem bE6 {n : Nat} (h : n ≤ 6) : bE n ≤ 262144 := by
  have h1 : (8 : Nat) ^ n ≤ 8 ^ 6 := Nat.pow_le_pow_right (by decide) h
  have h2 : ((8 ^ n : Nat) : Int) = bE n := by simp [bE]
  have : (8 : Nat) ^ 6 = 262144 := by decide
  omega
theorem bC6 {n : Nat} (h : n ≤ 6) : bC n ≤ 3188646000 := by
  have h1 : (9 : Nat) ^ n ≤ 9 ^ 6 := Nat.pow_le_pow_right (by decide) h
  have h3 : n * (1000 * 9 ^ n) ≤ 6 * (1000 * 9 ^ 6) := Nat.mul_le_mul h (Nat.mul_le_mul_left _ h1)
  have h2 : ((n * (1000 * 9 ^ n) : Nat) : Int) = bC n := by simp [bC]
  have : 6 * (1000 * 9 ^ 6) = 3188646000 := by decide
  omega
section
variable {n : Nat} {w : Mat} {p c : Nat → Int} {r : Nat → Bool}
/-- What the elimination gives is the value. -/
theorem out_val (h : Chn n w p c) (hs : sndP n w r) {i : Nat} (hi : i < n) : rdP (XE n (eqM n w p c r) n i n) (XE n (eqM n w p c r) n i i) = rdP (VN n w p c r i) (DN n w p c r) := by
  have S := sys_of h hs
  have hd := (S.stage n (Nat.le_refl _)).diag hi
  have ho := S.out hi
  have hv := (vals_of h hs (by omega)).pos
  refine rdP_cross hd hv ?_
  unfold VN DN absI at *
  split
  · rw [show ((det n (eqM n w p c r)).natAbs : Int) = - det n (eqM n w p c r) by omega]; grind
  · rw [show ((det n (eqM n w p c r)).natAbs : Int) = det n (eqM n w p c r) by omega]; grind
end
end Go.Proofs.Ytgamcclfdkpcgaa

set_option linter.unusedVariables false
set_option linter.unusedSimpArgs false
set_option maxRecDepth 10000
namespace Go.Proofs.Ytgamcclfdkpcgaa
open Go Go.Am

variable {h h' : Hp} {K : AV → Hp → Prop}

/-- Six rows of seven numbers. -/
def matA (X : Mat) : List AV := (List.range 42).map fun k => I (X (k / 7) (k % 7))
def setM (X : Mat) (i j : Nat) (v : Int) : Mat := fun r c => if r = i ∧ c = j then v else X r c
theorem matA_len (X : Mat) : (matA X).length = 42 := by simp [matA]
@[go_sem] theorem matA_get (X : Mat) (i j : Nat) (hi : i < 6) (hj : j < 7) : (matA X)[i * 7 + j]? = some (I (X i j)) := by
  have h1 : (i * 7 + j) / 7 = i := by omega
  have h2 : (i * 7 + j) % 7 = j := by omega
  rw [matA, List.getElem?_map, List.getElem?_range (by omega)]
  simp [h1, h2]
theorem matA_set (X : Mat) (i j : Nat) (v : Int) (hi : i < 6) (hj : j < 7) : (matA X).set (i * 7 + j) (I v) = matA (setM X i j v) := by
  refine List.ext_getElem? fun k => ?_
  rw [List.getElem?_set]
  by_cases hk : k < 42
  · by_cases e : i * 7 + j = k
    · subst e
      rw [if_pos rfl, if_pos (by rw [matA_len]; omega), matA_get _ _ _ hi hj]
      simp [setM]
    · rw [if_neg e]
      have h1 : k = k / 7 * 7 + k % 7 := by omega
      have h2 : ¬ (k / 7 = i ∧ k % 7 = j) := by omega
      rw [h1, matA_get _ _ _ (by omega) (by omega), matA_get _ _ _ (by omega) (by omega)]
      simp [setM, h2]
  · by_cases e : i * 7 + j = k
    · omega
    · rw [if_neg e, List.getElem?_eq_none (by rw [matA_len]; omega), List.getElem?_eq_none (by rw [matA_len]; omega)]
@[go_sem] theorem matA_store (X : Mat) (id i j : Nat) (v : Int) (hi : i < 6) (hj : j < 7) : storeC h id (i * 7 + j) 1 (some (.cells false false (matA X))) [.int .i64 v] = some (.skp, h.put id (some (.cells false false (matA (setM X i j v))))) := by
  rw [storeC_one id _ false _ (I v) rfl (by rw [matA_len]; omega), matA_set _ _ _ _ hi hj]
theorem matA_congr {X Y : Mat} (h : ∀ r c, r < 6 → c < 7 → X r c = Y r c) : matA X = matA Y := by
  refine List.map_congr_left fun k hk => ?_
  have hk := List.mem_range.1 hk
  rw [h _ _ (by omega) (by omega)]
theorem matA_cell (X : Mat) : (matA X).all AV.isCell = true := List.all_eq_true.2 fun x hx => by
  obtain ⟨k, _, rfl⟩ := List.mem_map.1 hx; rfl
theorem matA_pure (X : Mat) : AV.pureL (matA X) = true := pureL_all fun x hx => by
  obtain ⟨k, _, rfl⟩ := List.mem_map.1 hx; rfl
theorem export_pure (t : TypeId) (cs : List AV) (hp : AV.pureL cs = true) : exportR Try.prog false false [t] h (.agg cs) = some (.agg cs) := by
  show ((exportV Try.prog false false t h [] (.agg cs)).bind fun r => if isTup r.1 then none else some r.1) = _
  rw [exportV_plain, sealA_agg cs hp]; rfl
/-- A chain as lists. -/
structure okC (nx : List (List Int)) (pay cost : List Int) : Prop where
  n1 : 1 ≤ nx.length
  n6 : nx.length ≤ 6
  row : ∀ i, i < nx.length → (nth nx i).length = nx.length
  lp : pay.length = nx.length
  lc : cost.length = nx.length
  chn : Chn nx.length (fun i j => nth (nth nx i) j) (fun i => nth pay i) (fun i => nth cost i)
theorem okC.wb {nx : List (List Int)} {pay cost : List Int} (C : okC nx pay cost) {i j : Nat} (hi : i < nx.length) (hj : j < nx.length) : 0 ≤ nth (nth nx i) j ∧ nth (nth nx i) j ≤ 4 :=
  ⟨C.chn.w0 i j hi hj, Int.le_trans (term_le' (f := fun j => nth (nth nx i) j) (fun j hj => C.chn.w0 i j hi hj) hj) (C.chn.w4 i hi)⟩
theorem okC.pb {nx : List (List Int)} {pay cost : List Int} (C : okC nx pay cost) {i : Nat} (hi : i < nx.length) : 0 ≤ nth pay i ∧ nth pay i ≤ 1000 := C.chn.p i hi
theorem okC.cb {nx : List (List Int)} {pay cost : List Int} (C : okC nx pay cost) {i : Nat} (hi : i < nx.length) : 0 ≤ nth cost i ∧ nth cost i ≤ 100 := C.chn.c i hi
abbrev wF (nx : List (List Int)) : Mat := fun i j => nth (nth nx i) j
abbrev pF (pay : List Int) : Nat → Int := fun i => nth pay i
/-- The equations: zero where there is no state. -/
def eqX (nx : List (List Int)) (pay cost : List Int) (x m : Nat) : Mat := fun i j => if i < m ∧ j ≤ nx.length then eqM nx.length (wF nx) (pF pay) (pF cost) (ruleB x) i j else 0
def eqR (nx : List (List Int)) (pay cost : List Int) (x : Nat) : AV := .agg (matA (eqX nx pay cost x nx.length))
abbrev chA (nx : List (List Int)) (pay cost : List Int) : AV := .agg [LLI nx, LI pay, LI cost]

theorem f56_con {nx : List (List Int)} {pay cost : List Int} (C : okC nx pay cost) (x : Nat) : Con Try.prog cfg 56 [chA nx pay cost, uR nx.length x] (eqR nx pay cost x) := by
  obtain ⟨n, hn⟩ : ∃ n, n = nx.length := ⟨_, rfl⟩
  have hn1 := C.n1
  have hn6 := C.n6
  have hlp := C.lp
  have hlc := C.lc
  have hal : ∀ g : Hp, allocB g (some (chA nx pay cost)) = some (.ptr g.nx 0, g.alloc (.cells false false [LLI nx, LI pay, LI cost])) := fun g => allocB_agg _ rfl
  have hal2 : ∀ g : Hp, allocB g (some (uR nx.length x)) = some (.ptr g.nx 0, g.alloc (.cells false false ((ruleN nx.length nx.length x).flatMap (e1 AV.bool)))) := fun g => allocB_agg _ (List.all_eq_true.2 fun y hy => by
    obtain ⟨b, _, hb⟩ := List.mem_flatMap.1 hy
    simp only [e1, List.mem_singleton] at hb
    rw [hb]; rfl)
  have hz : izero Try.prog 87 = some (.agg (matA fun _ _ => 0)) := by kernel_rfl
  have hal3 : ∀ g : Hp, allocB g (izero Try.prog 87) = some (.ptr g.nx 0, g.alloc (.cells false false (matA fun _ _ => 0))) := fun g => by
    rw [hz]; exact allocB_agg _ (matA_cell _)
  simp only [izero87] at hal3
  refine Con_intro Try.func56 rfl ok56 (Nat.le_of_ble_eq_true rfl) rfl ?_
  simp only [Try.f56, Option.getD_some, initSt2]
  simp (disch := first | (simp only [go_sem, gb0, eq_self]; done) | omega | (simp only [gl1, gl2]; omega)) only [go_sem, ↓reduceIte, Nat.reduceEqDiff, Nat.reduceAdd, Nat.reduceMul, Nat.reduceSub, Int.reduceToNat, Nat.reduceBEq, hal, hal2, hal3]
  refine WP_cut (fun st h => st 4 = .ptr 2 0 ∧ st 5 = .ptr 3 0 ∧ h.bl 2 = some (.cells false false (matA fun _ _ => 0)) ∧ h.bl 3 = some (.cells false false (matA (eqX nx pay cost x n)))) ?_ ?_
  · refine WP_for 14 n (fun i st h => st 2 = .ptr 0 0 ∧ st 3 = .ptr 1 0 ∧ st 4 = .ptr 2 0 ∧ st 5 = .ptr 3 0 ∧ st 6 = I n ∧ st 13 = I n ∧ h.nx = 4 ∧ h.bl 0 = some (.cells false false [LLI nx, LI pay, LI cost]) ∧ h.bl 1 = some (.cells false false ((ruleN n n x).flatMap (e1 AV.bool))) ∧ h.bl 2 = some (.cells false false (matA fun _ _ => 0)) ∧ h.bl 3 = some (.cells false false (matA (eqX nx pay cost x i))) ∧ ((st 30 = .skp ∧ st 32 = .skp) ∨ ∃ a b, st 30 = .ptr 3 a ∧ st 32 = .ptr 3 b)) (by simp (disch := first | (simp only [go_sem, gb0, eq_self]; done) | omega | (simp only [gl1, gl2]; omega)) only [go_sem, ↓reduceIte, Nat.reduceEqDiff, Nat.reduceAdd, Nat.reduceMul, Nat.reduceSub, Int.reduceToNat, Nat.reduceBEq]) ⟨by simp (disch := first | (simp only [go_sem, gb0, eq_self]; done) | omega | (simp only [gl1, gl2]; omega)) only [go_sem, ↓reduceIte, Nat.reduceEqDiff, Nat.reduceAdd, Nat.reduceMul, Nat.reduceSub, Int.reduceToNat, Nat.reduceBEq], by simp (disch := first | (simp only [go_sem, gb0, eq_self]; done) | omega | (simp only [gl1, gl2]; omega)) only [go_sem, ↓reduceIte, Nat.reduceEqDiff, Nat.reduceAdd, Nat.reduceMul, Nat.reduceSub, Int.reduceToNat, Nat.reduceBEq], by simp (disch := first | (simp only [go_sem, gb0, eq_self]; done) | omega | (simp only [gl1, gl2]; omega)) only [go_sem, ↓reduceIte, Nat.reduceEqDiff, Nat.reduceAdd, Nat.reduceMul, Nat.reduceSub, Int.reduceToNat, Nat.reduceBEq], by simp (disch := first | (simp only [go_sem, gb0, eq_self]; done) | omega | (simp only [gl1, gl2]; omega)) only [go_sem, ↓reduceIte, Nat.reduceEqDiff, Nat.reduceAdd, Nat.reduceMul, Nat.reduceSub, Int.reduceToNat, Nat.reduceBEq], by simp (disch := first | (simp only [go_sem, gb0, eq_self]; done) | omega | (simp only [gl1, gl2]; omega)) only [go_sem, ↓reduceIte, Nat.reduceEqDiff, Nat.reduceAdd, Nat.reduceMul, Nat.reduceSub, Int.reduceToNat, Nat.reduceBEq, hn], by simp (disch := first | (simp only [go_sem, gb0, eq_self]; done) | omega | (simp only [gl1, gl2]; omega)) only [go_sem, ↓reduceIte, Nat.reduceEqDiff, Nat.reduceAdd, Nat.reduceMul, Nat.reduceSub, Int.reduceToNat, Nat.reduceBEq, hn], rfl, by simp (disch := first | (simp only [go_sem, gb0, eq_self]; done) | omega | (simp only [gl1, gl2]; omega)) only [go_sem, ↓reduceIte, Nat.reduceEqDiff, Nat.reduceAdd, Nat.reduceMul, Nat.reduceSub, Int.reduceToNat, Nat.reduceBEq], by simp (disch := first | (simp only [go_sem, gb0, eq_self]; done) | omega | (simp only [gl1, gl2]; omega)) only [go_sem, ↓reduceIte, Nat.reduceEqDiff, Nat.reduceAdd, Nat.reduceMul, Nat.reduceSub, Int.reduceToNat, Nat.reduceBEq, hn], by simp (disch := first | (simp only [go_sem, gb0, eq_self]; done) | omega | (simp only [gl1, gl2]; omega)) only [go_sem, ↓reduceIte, Nat.reduceEqDiff, Nat.reduceAdd, Nat.reduceMul, Nat.reduceSub, Int.reduceToNat, Nat.reduceBEq], ?_, .inl ⟨by simp (disch := first | (simp only [go_sem, gb0, eq_self]; done) | omega | (simp only [gl1, gl2]; omega)) only [go_sem, ↓reduceIte, Nat.reduceEqDiff, Nat.reduceAdd, Nat.reduceMul, Nat.reduceSub, Int.reduceToNat, Nat.reduceBEq]; rfl, by simp (disch := first | (simp only [go_sem, gb0, eq_self]; done) | omega | (simp only [gl1, gl2]; omega)) only [go_sem, ↓reduceIte, Nat.reduceEqDiff, Nat.reduceAdd, Nat.reduceMul, Nat.reduceSub, Int.reduceToNat, Nat.reduceBEq]; rfl⟩⟩ ?_
    · have : eqX nx pay cost x 0 = fun _ _ => 0 := by funext i j; simp [eqX]
      rw [this]; simp (disch := first | (simp only [go_sem, gb0, eq_self]; done) | omega | (simp only [gl1, gl2]; omega)) only [go_sem, ↓reduceIte, Nat.reduceEqDiff, Nat.reduceAdd, Nat.reduceMul, Nat.reduceSub, Int.reduceToNat, Nat.reduceBEq]
    rintro i st h hi s14 ⟨s2, s3, s4, s5, s6, s13, hnx, b0, b1, b2, b3, hw⟩
    by_cases hlt : i < n
    case neg =>
      have hie : i = n := by omega
      subst hie
      simp (disch := first | (simp only [go_sem, gb0, eq_self]; done) | omega | (simp only [gl1, gl2]; omega)) only [go_sem, ↓reduceIte, Nat.reduceEqDiff, Nat.reduceAdd, Nat.reduceMul, Nat.reduceSub, Int.reduceToNat, Nat.reduceBEq, s4, s5, s13, s14, hlt, b2, b3]
    have hi6 : i < 6 := by omega
    have hrn : ((ruleN n n x).flatMap (e1 AV.bool))[i]? = some (.bool (ruleB x i)) := by
      have hl := ruleN_len n n x
      rw [flat_bools _ _ (by omega), ruleN, fillR_nth hi6, if_pos hlt]; rfl
    have hi6' : (i : Int) < 6 := by omega
    cases hr : ruleB x i with
    | true =>
      rw [hr] at hrn
      have hip : i < pay.length := by omega
      have hpi : (i : Int) < pay.length := by omega
      have hin7 : n < 7 := by omega
      have hn7 : (n : Int) < 7 := by omega
      have hi7 : i < 7 := by omega
      have hi7' : (i : Int) < 7 := by omega
      have hgo : matA (setM (setM (eqX nx pay cost x i) i i 1) i n (nth pay i)) = matA (eqX nx pay cost x (i + 1)) := by
        refine matA_congr fun r k hr6 hk7 => ?_
        simp only [setM, eqX, ← hn]
        by_cases hri : r = i
        · subst hri
          by_cases hkn : k = n
          · subst hkn
            rw [if_pos ⟨rfl, rfl⟩, if_pos ⟨by omega, Nat.le_refl _⟩]
            unfold eqM; rw [hr]; simp
          · rw [if_neg (by omega)]
            by_cases hkr : k = r
            · subst hkr
              rw [if_pos ⟨rfl, rfl⟩, if_pos ⟨by omega, by omega⟩]
              unfold eqM; rw [hr]; simp [hkn]
            · rw [if_neg (by omega), if_neg (by omega)]
              by_cases hkl : k ≤ n
              · rw [if_pos ⟨by omega, hkl⟩]; unfold eqM; rw [hr]; simp [hkn, hkr]
              · rw [if_neg (by omega)]
        · rw [if_neg (by omega), if_neg (by omega)]
          by_cases hc : r < i ∧ k ≤ n
          · rw [if_pos hc, if_pos ⟨by omega, hc.2⟩]
          · rw [if_neg hc, if_neg (by omega)]
      rcases hw with ⟨s30, s32⟩ | ⟨a, b, s30, s32⟩
      · simp (maxSteps := 3000000) (disch := first | (simp only [go_sem, gb0, eq_self]; done) | omega | (simp only [gl1, gl2]; omega)) only [go_sem, ↓reduceIte, Nat.reduceEqDiff, Nat.reduceAdd, Nat.reduceMul, Nat.reduceSub, Int.reduceToNat, Nat.reduceBEq, s2, s3, s4, s5, s6, s13, s14, s30, s32, hlt, hi6', hi6, hi7, hi7', hin7, hn7, hpi, hip, hrn, hnx, b0, b1, b2, b3, hgo, List.filterMap_cons, List.filterMap_nil, List.contains_nil, List.contains_cons, Bool.not_false, Bool.not_true, Bool.or_true, Bool.true_or, List.nil_append, List.cons_append, Nat.reduceLT, decide_true, decide_false, List.drop_succ_cons]
        rw [ForK_normal]
        exact ⟨hlt, by simp (disch := first | (simp only [go_sem, gb0, eq_self]; done) | omega | (simp only [gl1, gl2]; omega)) only [go_sem, ↓reduceIte, Nat.reduceEqDiff, Nat.reduceAdd, Nat.reduceMul, Nat.reduceSub, Int.reduceToNat, Nat.reduceBEq, s14], by simp (disch := first | (simp only [go_sem, gb0, eq_self]; done) | omega | (simp only [gl1, gl2]; omega)) only [go_sem, ↓reduceIte, Nat.reduceEqDiff, Nat.reduceAdd, Nat.reduceMul, Nat.reduceSub, Int.reduceToNat, Nat.reduceBEq, s2], by simp (disch := first | (simp only [go_sem, gb0, eq_self]; done) | omega | (simp only [gl1, gl2]; omega)) only [go_sem, ↓reduceIte, Nat.reduceEqDiff, Nat.reduceAdd, Nat.reduceMul, Nat.reduceSub, Int.reduceToNat, Nat.reduceBEq, s3], by simp (disch := first | (simp only [go_sem, gb0, eq_self]; done) | omega | (simp only [gl1, gl2]; omega)) only [go_sem, ↓reduceIte, Nat.reduceEqDiff, Nat.reduceAdd, Nat.reduceMul, Nat.reduceSub, Int.reduceToNat, Nat.reduceBEq, s4], by simp (disch := first | (simp only [go_sem, gb0, eq_self]; done) | omega | (simp only [gl1, gl2]; omega)) only [go_sem, ↓reduceIte, Nat.reduceEqDiff, Nat.reduceAdd, Nat.reduceMul, Nat.reduceSub, Int.reduceToNat, Nat.reduceBEq, s5], by simp (disch := first | (simp only [go_sem, gb0, eq_self]; done) | omega | (simp only [gl1, gl2]; omega)) only [go_sem, ↓reduceIte, Nat.reduceEqDiff, Nat.reduceAdd, Nat.reduceMul, Nat.reduceSub, Int.reduceToNat, Nat.reduceBEq, s6], by simp (disch := first | (simp only [go_sem, gb0, eq_self]; done) | omega | (simp only [gl1, gl2]; omega)) only [go_sem, ↓reduceIte, Nat.reduceEqDiff, Nat.reduceAdd, Nat.reduceMul, Nat.reduceSub, Int.reduceToNat, Nat.reduceBEq, s13], by simp (disch := first | (simp only [go_sem, gb0, eq_self]; done) | omega | (simp only [gl1, gl2]; omega)) only [go_sem, ↓reduceIte, Nat.reduceEqDiff, Nat.reduceAdd, Nat.reduceMul, Nat.reduceSub, Int.reduceToNat, Nat.reduceBEq, hnx], by simp (disch := first | (simp only [go_sem, gb0, eq_self]; done) | omega | (simp only [gl1, gl2]; omega)) only [go_sem, ↓reduceIte, Nat.reduceEqDiff, Nat.reduceAdd, Nat.reduceMul, Nat.reduceSub, Int.reduceToNat, Nat.reduceBEq, b0], by simp (disch := first | (simp only [go_sem, gb0, eq_self]; done) | omega | (simp only [gl1, gl2]; omega)) only [go_sem, ↓reduceIte, Nat.reduceEqDiff, Nat.reduceAdd, Nat.reduceMul, Nat.reduceSub, Int.reduceToNat, Nat.reduceBEq, b1], by simp (disch := first | (simp only [go_sem, gb0, eq_self]; done) | omega | (simp only [gl1, gl2]; omega)) only [go_sem, ↓reduceIte, Nat.reduceEqDiff, Nat.reduceAdd, Nat.reduceMul, Nat.reduceSub, Int.reduceToNat, Nat.reduceBEq, b2], by simp (disch := first | (simp only [go_sem, gb0, eq_self]; done) | omega | (simp only [gl1, gl2]; omega)) only [go_sem, ↓reduceIte, Nat.reduceEqDiff, Nat.reduceAdd, Nat.reduceMul, Nat.reduceSub, Int.reduceToNat, Nat.reduceBEq], .inr ⟨_, _, by simp (disch := first | (simp only [go_sem, gb0, eq_self]; done) | omega | (simp only [gl1, gl2]; omega)) only [go_sem, ↓reduceIte, Nat.reduceEqDiff, Nat.reduceAdd, Nat.reduceMul, Nat.reduceSub, Int.reduceToNat, Nat.reduceBEq]; rfl, by simp (disch := first | (simp only [go_sem, gb0, eq_self]; done) | omega | (simp only [gl1, gl2]; omega)) only [go_sem, ↓reduceIte, Nat.reduceEqDiff, Nat.reduceAdd, Nat.reduceMul, Nat.reduceSub, Int.reduceToNat, Nat.reduceBEq]; rfl⟩⟩
      · simp (maxSteps := 3000000) (disch := first | (simp only [go_sem, gb0, eq_self]; done) | omega | (simp only [gl1, gl2]; omega)) only [go_sem, ↓reduceIte, Nat.reduceEqDiff, Nat.reduceAdd, Nat.reduceMul, Nat.reduceSub, Int.reduceToNat, Nat.reduceBEq, s2, s3, s4, s5, s6, s13, s14, s30, s32, hlt, hi6', hi6, hi7, hi7', hin7, hn7, hpi, hip, hrn, hnx, b0, b1, b2, b3, hgo, List.filterMap_cons, List.filterMap_nil, List.contains_nil, List.contains_cons, Bool.not_false, Bool.not_true, Bool.or_true, Bool.true_or, List.nil_append, List.cons_append, Nat.reduceLT, decide_true, decide_false, List.drop_succ_cons]
        rw [ForK_normal]
        exact ⟨hlt, by simp (disch := first | (simp only [go_sem, gb0, eq_self]; done) | omega | (simp only [gl1, gl2]; omega)) only [go_sem, ↓reduceIte, Nat.reduceEqDiff, Nat.reduceAdd, Nat.reduceMul, Nat.reduceSub, Int.reduceToNat, Nat.reduceBEq, s14], by simp (disch := first | (simp only [go_sem, gb0, eq_self]; done) | omega | (simp only [gl1, gl2]; omega)) only [go_sem, ↓reduceIte, Nat.reduceEqDiff, Nat.reduceAdd, Nat.reduceMul, Nat.reduceSub, Int.reduceToNat, Nat.reduceBEq, s2], by simp (disch := first | (simp only [go_sem, gb0, eq_self]; done) | omega | (simp only [gl1, gl2]; omega)) only [go_sem, ↓reduceIte, Nat.reduceEqDiff, Nat.reduceAdd, Nat.reduceMul, Nat.reduceSub, Int.reduceToNat, Nat.reduceBEq, s3], by simp (disch := first | (simp only [go_sem, gb0, eq_self]; done) | omega | (simp only [gl1, gl2]; omega)) only [go_sem, ↓reduceIte, Nat.reduceEqDiff, Nat.reduceAdd, Nat.reduceMul, Nat.reduceSub, Int.reduceToNat, Nat.reduceBEq, s4], by simp (disch := first | (simp only [go_sem, gb0, eq_self]; done) | omega | (simp only [gl1, gl2]; omega)) only [go_sem, ↓reduceIte, Nat.reduceEqDiff, Nat.reduceAdd, Nat.reduceMul, Nat.reduceSub, Int.reduceToNat, Nat.reduceBEq, s5], by simp (disch := first | (simp only [go_sem, gb0, eq_self]; done) | omega | (simp only [gl1, gl2]; omega)) only [go_sem, ↓reduceIte, Nat.reduceEqDiff, Nat.reduceAdd, Nat.reduceMul, Nat.reduceSub, Int.reduceToNat, Nat.reduceBEq, s6], by simp (disch := first | (simp only [go_sem, gb0, eq_self]; done) | omega | (simp only [gl1, gl2]; omega)) only [go_sem, ↓reduceIte, Nat.reduceEqDiff, Nat.reduceAdd, Nat.reduceMul, Nat.reduceSub, Int.reduceToNat, Nat.reduceBEq, s13], by simp (disch := first | (simp only [go_sem, gb0, eq_self]; done) | omega | (simp only [gl1, gl2]; omega)) only [go_sem, ↓reduceIte, Nat.reduceEqDiff, Nat.reduceAdd, Nat.reduceMul, Nat.reduceSub, Int.reduceToNat, Nat.reduceBEq, hnx], by simp (disch := first | (simp only [go_sem, gb0, eq_self]; done) | omega | (simp only [gl1, gl2]; omega)) only [go_sem, ↓reduceIte, Nat.reduceEqDiff, Nat.reduceAdd, Nat.reduceMul, Nat.reduceSub, Int.reduceToNat, Nat.reduceBEq, b0], by simp (disch := first | (simp only [go_sem, gb0, eq_self]; done) | omega | (simp only [gl1, gl2]; omega)) only [go_sem, ↓reduceIte, Nat.reduceEqDiff, Nat.reduceAdd, Nat.reduceMul, Nat.reduceSub, Int.reduceToNat, Nat.reduceBEq, b1], by simp (disch := first | (simp only [go_sem, gb0, eq_self]; done) | omega | (simp only [gl1, gl2]; omega)) only [go_sem, ↓reduceIte, Nat.reduceEqDiff, Nat.reduceAdd, Nat.reduceMul, Nat.reduceSub, Int.reduceToNat, Nat.reduceBEq, b2], by simp (disch := first | (simp only [go_sem, gb0, eq_self]; done) | omega | (simp only [gl1, gl2]; omega)) only [go_sem, ↓reduceIte, Nat.reduceEqDiff, Nat.reduceAdd, Nat.reduceMul, Nat.reduceSub, Int.reduceToNat, Nat.reduceBEq], .inr ⟨_, _, by simp (disch := first | (simp only [go_sem, gb0, eq_self]; done) | omega | (simp only [gl1, gl2]; omega)) only [go_sem, ↓reduceIte, Nat.reduceEqDiff, Nat.reduceAdd, Nat.reduceMul, Nat.reduceSub, Int.reduceToNat, Nat.reduceBEq]; rfl, by simp (disch := first | (simp only [go_sem, gb0, eq_self]; done) | omega | (simp only [gl1, gl2]; omega)) only [go_sem, ↓reduceIte, Nat.reduceEqDiff, Nat.reduceAdd, Nat.reduceMul, Nat.reduceSub, Int.reduceToNat, Nat.reduceBEq]; rfl⟩⟩
    | false =>
      rw [hr] at hrn
      have hin7 : n < 7 := by omega
      have hn7 : (n : Int) < 7 := by omega
      have hi7 : i < 7 := by omega
      have hi7' : (i : Int) < 7 := by omega
      have hinx : i < nx.length := by omega
      have hinx' : (i : Int) < nx.length := by omega
      have hrow := C.row i hinx
      have hico : i < cost.length := by omega
      have hico' : (i : Int) < cost.length := by omega
      have hcc := C.cb hinx
      obtain ⟨Y, hY⟩ : ∃ Y : Nat → Mat, Y = fun m r k => if r = i then (if k = i then 4 else 0) - (if k < m then wF nx i k else 0) else eqX nx pay cost x i r k := ⟨_, rfl⟩
      have hY0 : matA (setM (eqX nx pay cost x i) i i 4) = matA (Y 0) := by
        refine matA_congr fun r k hr6 hk7 => ?_
        rw [hY]
        simp only [setM]
        by_cases hri : r = i
        · subst hri
          rw [if_pos rfl, if_neg (Nat.not_lt_zero _)]
          by_cases hkr : k = r
          · subst hkr; rw [if_pos ⟨rfl, rfl⟩, if_pos rfl]; rfl
          · rw [if_neg (by omega), if_neg hkr]
            unfold eqX; rw [if_neg (by omega)]; rfl
        · rw [if_neg (by omega), if_neg hri]
      simp (disch := first | (simp only [go_sem, gb0, eq_self]; done) | omega | (simp only [gl1, gl2]; omega)) only [go_sem, ↓reduceIte, Nat.reduceEqDiff, Nat.reduceAdd, Nat.reduceMul, Nat.reduceSub, Int.reduceToNat, Nat.reduceBEq, s2, s3, s4, s5, s6, s13, s14, hlt, hi6', hi6, hi7, hi7', hrn, hinx, hinx', hnx, b0, b1, b2, b3, hY0]
      refine WP_cut (fun st h => st 2 = .ptr 0 0 ∧ st 3 = .ptr 1 0 ∧ st 4 = .ptr 2 0 ∧ st 5 = .ptr 3 0 ∧ st 6 = I n ∧ st 7 = I i ∧ st 13 = I n ∧ st 14 = I i ∧ h.nx = 4 ∧ h.bl 0 = some (.cells false false [LLI nx, LI pay, LI cost]) ∧ h.bl 1 = some (.cells false false ((ruleN n n x).flatMap (e1 AV.bool))) ∧ h.bl 2 = some (.cells false false (matA fun _ _ => 0)) ∧ h.bl 3 = some (.cells false false (matA (Y n))) ∧ ((st 30 = .skp ∧ st 32 = .skp) ∨ ∃ a b, st 30 = .ptr 3 a ∧ st 32 = .ptr 3 b)) ?_ ?_
      · refine WP_for 43 n (fun m st h => st 2 = .ptr 0 0 ∧ st 3 = .ptr 1 0 ∧ st 4 = .ptr 2 0 ∧ st 5 = .ptr 3 0 ∧ st 6 = I n ∧ st 7 = I i ∧ st 13 = I n ∧ st 14 = I i ∧ st 41 = LI (nth nx i) ∧ st 42 = I n ∧ h.nx = 4 ∧ h.bl 0 = some (.cells false false [LLI nx, LI pay, LI cost]) ∧ h.bl 1 = some (.cells false false ((ruleN n n x).flatMap (e1 AV.bool))) ∧ h.bl 2 = some (.cells false false (matA fun _ _ => 0)) ∧ h.bl 3 = some (.cells false false (matA (Y m))) ∧ ((st 30 = .skp ∧ st 32 = .skp) ∨ ∃ a b, st 30 = .ptr 3 a ∧ st 32 = .ptr 3 b)) (by simp (disch := first | (simp only [go_sem, gb0, eq_self]; done) | omega | (simp only [gl1, gl2]; omega)) only [go_sem, ↓reduceIte, Nat.reduceEqDiff, Nat.reduceAdd, Nat.reduceMul, Nat.reduceSub, Int.reduceToNat, Nat.reduceBEq]) ⟨by simp (disch := first | (simp only [go_sem, gb0, eq_self]; done) | omega | (simp only [gl1, gl2]; omega)) only [go_sem, ↓reduceIte, Nat.reduceEqDiff, Nat.reduceAdd, Nat.reduceMul, Nat.reduceSub, Int.reduceToNat, Nat.reduceBEq, s2], by simp (disch := first | (simp only [go_sem, gb0, eq_self]; done) | omega | (simp only [gl1, gl2]; omega)) only [go_sem, ↓reduceIte, Nat.reduceEqDiff, Nat.reduceAdd, Nat.reduceMul, Nat.reduceSub, Int.reduceToNat, Nat.reduceBEq, s3], by simp (disch := first | (simp only [go_sem, gb0, eq_self]; done) | omega | (simp only [gl1, gl2]; omega)) only [go_sem, ↓reduceIte, Nat.reduceEqDiff, Nat.reduceAdd, Nat.reduceMul, Nat.reduceSub, Int.reduceToNat, Nat.reduceBEq, s4], by simp (disch := first | (simp only [go_sem, gb0, eq_self]; done) | omega | (simp only [gl1, gl2]; omega)) only [go_sem, ↓reduceIte, Nat.reduceEqDiff, Nat.reduceAdd, Nat.reduceMul, Nat.reduceSub, Int.reduceToNat, Nat.reduceBEq, s5], by simp (disch := first | (simp only [go_sem, gb0, eq_self]; done) | omega | (simp only [gl1, gl2]; omega)) only [go_sem, ↓reduceIte, Nat.reduceEqDiff, Nat.reduceAdd, Nat.reduceMul, Nat.reduceSub, Int.reduceToNat, Nat.reduceBEq, s6], by simp (disch := first | (simp only [go_sem, gb0, eq_self]; done) | omega | (simp only [gl1, gl2]; omega)) only [go_sem, ↓reduceIte, Nat.reduceEqDiff, Nat.reduceAdd, Nat.reduceMul, Nat.reduceSub, Int.reduceToNat, Nat.reduceBEq], by simp (disch := first | (simp only [go_sem, gb0, eq_self]; done) | omega | (simp only [gl1, gl2]; omega)) only [go_sem, ↓reduceIte, Nat.reduceEqDiff, Nat.reduceAdd, Nat.reduceMul, Nat.reduceSub, Int.reduceToNat, Nat.reduceBEq, s13], by simp (disch := first | (simp only [go_sem, gb0, eq_self]; done) | omega | (simp only [gl1, gl2]; omega)) only [go_sem, ↓reduceIte, Nat.reduceEqDiff, Nat.reduceAdd, Nat.reduceMul, Nat.reduceSub, Int.reduceToNat, Nat.reduceBEq, s14], by simp (disch := first | (simp only [go_sem, gb0, eq_self]; done) | omega | (simp only [gl1, gl2]; omega)) only [go_sem, ↓reduceIte, Nat.reduceEqDiff, Nat.reduceAdd, Nat.reduceMul, Nat.reduceSub, Int.reduceToNat, Nat.reduceBEq], by (simp (disch := first | (simp only [go_sem, gb0, eq_self]; done) | omega | (simp only [gl1, gl2]; omega)) only [go_sem, ↓reduceIte, Nat.reduceEqDiff, Nat.reduceAdd, Nat.reduceMul, Nat.reduceSub, Int.reduceToNat, Nat.reduceBEq]; rw [hrow, hn]), by simp (disch := first | (simp only [go_sem, gb0, eq_self]; done) | omega | (simp only [gl1, gl2]; omega)) only [go_sem, ↓reduceIte, Nat.reduceEqDiff, Nat.reduceAdd, Nat.reduceMul, Nat.reduceSub, Int.reduceToNat, Nat.reduceBEq, hnx], by simp (disch := first | (simp only [go_sem, gb0, eq_self]; done) | omega | (simp only [gl1, gl2]; omega)) only [go_sem, ↓reduceIte, Nat.reduceEqDiff, Nat.reduceAdd, Nat.reduceMul, Nat.reduceSub, Int.reduceToNat, Nat.reduceBEq, b0], by simp (disch := first | (simp only [go_sem, gb0, eq_self]; done) | omega | (simp only [gl1, gl2]; omega)) only [go_sem, ↓reduceIte, Nat.reduceEqDiff, Nat.reduceAdd, Nat.reduceMul, Nat.reduceSub, Int.reduceToNat, Nat.reduceBEq, b1], by simp (disch := first | (simp only [go_sem, gb0, eq_self]; done) | omega | (simp only [gl1, gl2]; omega)) only [go_sem, ↓reduceIte, Nat.reduceEqDiff, Nat.reduceAdd, Nat.reduceMul, Nat.reduceSub, Int.reduceToNat, Nat.reduceBEq, b2], by simp (disch := first | (simp only [go_sem, gb0, eq_self]; done) | omega | (simp only [gl1, gl2]; omega)) only [go_sem, ↓reduceIte, Nat.reduceEqDiff, Nat.reduceAdd, Nat.reduceMul, Nat.reduceSub, Int.reduceToNat, Nat.reduceBEq], ?_⟩ ?_
        · rcases hw with ⟨s30, s32⟩ | ⟨a, b, s30, s32⟩
          · exact .inl ⟨by simp (disch := first | (simp only [go_sem, gb0, eq_self]; done) | omega | (simp only [gl1, gl2]; omega)) only [go_sem, ↓reduceIte, Nat.reduceEqDiff, Nat.reduceAdd, Nat.reduceMul, Nat.reduceSub, Int.reduceToNat, Nat.reduceBEq, s30], by simp (disch := first | (simp only [go_sem, gb0, eq_self]; done) | omega | (simp only [gl1, gl2]; omega)) only [go_sem, ↓reduceIte, Nat.reduceEqDiff, Nat.reduceAdd, Nat.reduceMul, Nat.reduceSub, Int.reduceToNat, Nat.reduceBEq, s32]⟩
          · exact .inr ⟨a, b, by simp (disch := first | (simp only [go_sem, gb0, eq_self]; done) | omega | (simp only [gl1, gl2]; omega)) only [go_sem, ↓reduceIte, Nat.reduceEqDiff, Nat.reduceAdd, Nat.reduceMul, Nat.reduceSub, Int.reduceToNat, Nat.reduceBEq, s30], by simp (disch := first | (simp only [go_sem, gb0, eq_self]; done) | omega | (simp only [gl1, gl2]; omega)) only [go_sem, ↓reduceIte, Nat.reduceEqDiff, Nat.reduceAdd, Nat.reduceMul, Nat.reduceSub, Int.reduceToNat, Nat.reduceBEq, s32]⟩
        rintro m st h hm s43 ⟨s2, s3, s4, s5, s6, s7, s13, s14, s41, s42, hnx, b0, b1, b2, b3, hw⟩
        by_cases hml : m < n
        case neg =>
          have hme : m = n := by omega
          subst hme
          simp (disch := first | (simp only [go_sem, gb0, eq_self]; done) | omega | (simp only [gl1, gl2]; omega)) only [go_sem, ↓reduceIte, Nat.reduceEqDiff, Nat.reduceAdd, Nat.reduceMul, Nat.reduceSub, Int.reduceToNat, Nat.reduceBEq, s2, s3, s4, s5, s6, s7, s13, s14, s42, s43, hml]
          exact ⟨hnx, b0, b1, b2, b3, hw⟩
        have hm7 : m < 7 := by omega
        have hm7' : (m : Int) < 7 := by omega
        have hmr : m < (nth nx i).length := by omega
        have hmr' : (m : Int) < (nth nx i).length := by omega
        have hw0 := C.wb hinx (show m < nx.length by omega)
        have hYv : Y m i m = if m = i then 4 else 0 := by rw [hY]; simp
        have hYb : 0 ≤ Y m i m ∧ Y m i m ≤ 4 := by rw [hYv]; split <;> omega
        have hYn : matA (setM (Y m) i m (Y m i m - nth (nth nx i) m)) = matA (Y (m + 1)) := by
          refine matA_congr fun r k hr6 hk7 => ?_
          simp only [setM]
          by_cases hri : r = i
          · subst hri
            by_cases hkm : k = m
            · subst hkm
              rw [if_pos ⟨rfl, rfl⟩, hYv, hY]
              simp
            · rw [if_neg (by omega), hY]
              have : (k < m) ↔ (k < m + 1) := by omega
              simp [this]
          · rw [if_neg (by omega), hY]; simp [hri]
        simp (disch := first | (simp only [go_sem, gb0, eq_self]; done) | omega | (simp only [gl1, gl2]; omega)) only [go_sem, ↓reduceIte, Nat.reduceEqDiff, Nat.reduceAdd, Nat.reduceMul, Nat.reduceSub, Int.reduceToNat, Nat.reduceBEq, s2, s3, s4, s5, s6, s7, s13, s14, s41, s42, s43, hml, hi6', hi6, hm7, hm7', hmr, hmr', b3, hYn, hnx]
        rw [ForK_normal]
        refine ⟨hml, by simp (disch := first | (simp only [go_sem, gb0, eq_self]; done) | omega | (simp only [gl1, gl2]; omega)) only [go_sem, ↓reduceIte, Nat.reduceEqDiff, Nat.reduceAdd, Nat.reduceMul, Nat.reduceSub, Int.reduceToNat, Nat.reduceBEq, s43], by simp (disch := first | (simp only [go_sem, gb0, eq_self]; done) | omega | (simp only [gl1, gl2]; omega)) only [go_sem, ↓reduceIte, Nat.reduceEqDiff, Nat.reduceAdd, Nat.reduceMul, Nat.reduceSub, Int.reduceToNat, Nat.reduceBEq, s2], by simp (disch := first | (simp only [go_sem, gb0, eq_self]; done) | omega | (simp only [gl1, gl2]; omega)) only [go_sem, ↓reduceIte, Nat.reduceEqDiff, Nat.reduceAdd, Nat.reduceMul, Nat.reduceSub, Int.reduceToNat, Nat.reduceBEq, s3], by simp (disch := first | (simp only [go_sem, gb0, eq_self]; done) | omega | (simp only [gl1, gl2]; omega)) only [go_sem, ↓reduceIte, Nat.reduceEqDiff, Nat.reduceAdd, Nat.reduceMul, Nat.reduceSub, Int.reduceToNat, Nat.reduceBEq, s4], by simp (disch := first | (simp only [go_sem, gb0, eq_self]; done) | omega | (simp only [gl1, gl2]; omega)) only [go_sem, ↓reduceIte, Nat.reduceEqDiff, Nat.reduceAdd, Nat.reduceMul, Nat.reduceSub, Int.reduceToNat, Nat.reduceBEq, s5], by simp (disch := first | (simp only [go_sem, gb0, eq_self]; done) | omega | (simp only [gl1, gl2]; omega)) only [go_sem, ↓reduceIte, Nat.reduceEqDiff, Nat.reduceAdd, Nat.reduceMul, Nat.reduceSub, Int.reduceToNat, Nat.reduceBEq, s6], by simp (disch := first | (simp only [go_sem, gb0, eq_self]; done) | omega | (simp only [gl1, gl2]; omega)) only [go_sem, ↓reduceIte, Nat.reduceEqDiff, Nat.reduceAdd, Nat.reduceMul, Nat.reduceSub, Int.reduceToNat, Nat.reduceBEq, s7], by simp (disch := first | (simp only [go_sem, gb0, eq_self]; done) | omega | (simp only [gl1, gl2]; omega)) only [go_sem, ↓reduceIte, Nat.reduceEqDiff, Nat.reduceAdd, Nat.reduceMul, Nat.reduceSub, Int.reduceToNat, Nat.reduceBEq, s13], by simp (disch := first | (simp only [go_sem, gb0, eq_self]; done) | omega | (simp only [gl1, gl2]; omega)) only [go_sem, ↓reduceIte, Nat.reduceEqDiff, Nat.reduceAdd, Nat.reduceMul, Nat.reduceSub, Int.reduceToNat, Nat.reduceBEq, s14], by simp (disch := first | (simp only [go_sem, gb0, eq_self]; done) | omega | (simp only [gl1, gl2]; omega)) only [go_sem, ↓reduceIte, Nat.reduceEqDiff, Nat.reduceAdd, Nat.reduceMul, Nat.reduceSub, Int.reduceToNat, Nat.reduceBEq, s41], by simp (disch := first | (simp only [go_sem, gb0, eq_self]; done) | omega | (simp only [gl1, gl2]; omega)) only [go_sem, ↓reduceIte, Nat.reduceEqDiff, Nat.reduceAdd, Nat.reduceMul, Nat.reduceSub, Int.reduceToNat, Nat.reduceBEq, s42], by simp (disch := first | (simp only [go_sem, gb0, eq_self]; done) | omega | (simp only [gl1, gl2]; omega)) only [go_sem, ↓reduceIte, Nat.reduceEqDiff, Nat.reduceAdd, Nat.reduceMul, Nat.reduceSub, Int.reduceToNat, Nat.reduceBEq, hnx], by simp (disch := first | (simp only [go_sem, gb0, eq_self]; done) | omega | (simp only [gl1, gl2]; omega)) only [go_sem, ↓reduceIte, Nat.reduceEqDiff, Nat.reduceAdd, Nat.reduceMul, Nat.reduceSub, Int.reduceToNat, Nat.reduceBEq, b0], by simp (disch := first | (simp only [go_sem, gb0, eq_self]; done) | omega | (simp only [gl1, gl2]; omega)) only [go_sem, ↓reduceIte, Nat.reduceEqDiff, Nat.reduceAdd, Nat.reduceMul, Nat.reduceSub, Int.reduceToNat, Nat.reduceBEq, b1], by simp (disch := first | (simp only [go_sem, gb0, eq_self]; done) | omega | (simp only [gl1, gl2]; omega)) only [go_sem, ↓reduceIte, Nat.reduceEqDiff, Nat.reduceAdd, Nat.reduceMul, Nat.reduceSub, Int.reduceToNat, Nat.reduceBEq, b2], by simp (disch := first | (simp only [go_sem, gb0, eq_self]; done) | omega | (simp only [gl1, gl2]; omega)) only [go_sem, ↓reduceIte, Nat.reduceEqDiff, Nat.reduceAdd, Nat.reduceMul, Nat.reduceSub, Int.reduceToNat, Nat.reduceBEq], ?_⟩
        rcases hw with ⟨s30, s32⟩ | ⟨a, b, s30, s32⟩
        · exact .inl ⟨by simp (disch := first | (simp only [go_sem, gb0, eq_self]; done) | omega | (simp only [gl1, gl2]; omega)) only [go_sem, ↓reduceIte, Nat.reduceEqDiff, Nat.reduceAdd, Nat.reduceMul, Nat.reduceSub, Int.reduceToNat, Nat.reduceBEq, s30], by simp (disch := first | (simp only [go_sem, gb0, eq_self]; done) | omega | (simp only [gl1, gl2]; omega)) only [go_sem, ↓reduceIte, Nat.reduceEqDiff, Nat.reduceAdd, Nat.reduceMul, Nat.reduceSub, Int.reduceToNat, Nat.reduceBEq, s32]⟩
        · exact .inr ⟨a, b, by simp (disch := first | (simp only [go_sem, gb0, eq_self]; done) | omega | (simp only [gl1, gl2]; omega)) only [go_sem, ↓reduceIte, Nat.reduceEqDiff, Nat.reduceAdd, Nat.reduceMul, Nat.reduceSub, Int.reduceToNat, Nat.reduceBEq, s30], by simp (disch := first | (simp only [go_sem, gb0, eq_self]; done) | omega | (simp only [gl1, gl2]; omega)) only [go_sem, ↓reduceIte, Nat.reduceEqDiff, Nat.reduceAdd, Nat.reduceMul, Nat.reduceSub, Int.reduceToNat, Nat.reduceBEq, s32]⟩
      · rintro st h ⟨s2, s3, s4, s5, s6, s7, s13, s14, hnx, b0, b1, b2, b3, hw⟩
        have hYn : matA (setM (Y n) i n (-4 * nth cost i)) = matA (eqX nx pay cost x (i + 1)) := by
          refine matA_congr fun r k hr6 hk7 => ?_
          simp only [setM]
          rw [hY]
          by_cases hri : r = i
          · subst hri
            by_cases hkn : k = n
            · subst hkn
              rw [if_pos ⟨rfl, rfl⟩]
              unfold eqX
              rw [if_pos ⟨by omega, by omega⟩]
              unfold eqM; rw [hr]; simp [hn]
            · rw [if_neg (by omega)]
              unfold eqX
              by_cases hkl : k ≤ nx.length
              · rw [if_pos ⟨by omega, hkl⟩]
                unfold eqM; rw [hr]
                have h1 : k < n := by omega
                have h2 : ¬ k = nx.length := by omega
                simp [h1, h2]
              · rw [if_neg (by omega)]
                have h1 : ¬ k < n := by omega
                have h2 : ¬ k = r := by omega
                simp [h1, h2]
          · rw [if_neg (by omega)]
            unfold eqX
            simp only [hri, if_false]
            by_cases hc : r < i ∧ k ≤ nx.length
            · rw [if_pos hc, if_pos ⟨by omega, hc.2⟩]
            · rw [if_neg hc, if_neg (by omega)]
        simp (disch := first | (simp only [go_sem, gb0, eq_self]; done) | omega | (simp only [gl1, gl2]; omega)) only [go_sem, ↓reduceIte, Nat.reduceEqDiff, Nat.reduceAdd, Nat.reduceMul, Nat.reduceSub, Int.reduceToNat, Nat.reduceBEq, s2, s3, s4, s5, s6, s7, s13, s14, hi6', hi6, hin7, hn7, hico, hico', b0, b3, hYn, hnx]
        rw [ForK_normal]
        refine ⟨hlt, by simp (disch := first | (simp only [go_sem, gb0, eq_self]; done) | omega | (simp only [gl1, gl2]; omega)) only [go_sem, ↓reduceIte, Nat.reduceEqDiff, Nat.reduceAdd, Nat.reduceMul, Nat.reduceSub, Int.reduceToNat, Nat.reduceBEq, s14], by simp (disch := first | (simp only [go_sem, gb0, eq_self]; done) | omega | (simp only [gl1, gl2]; omega)) only [go_sem, ↓reduceIte, Nat.reduceEqDiff, Nat.reduceAdd, Nat.reduceMul, Nat.reduceSub, Int.reduceToNat, Nat.reduceBEq, s2], by simp (disch := first | (simp only [go_sem, gb0, eq_self]; done) | omega | (simp only [gl1, gl2]; omega)) only [go_sem, ↓reduceIte, Nat.reduceEqDiff, Nat.reduceAdd, Nat.reduceMul, Nat.reduceSub, Int.reduceToNat, Nat.reduceBEq, s3], by simp (disch := first | (simp only [go_sem, gb0, eq_self]; done) | omega | (simp only [gl1, gl2]; omega)) only [go_sem, ↓reduceIte, Nat.reduceEqDiff, Nat.reduceAdd, Nat.reduceMul, Nat.reduceSub, Int.reduceToNat, Nat.reduceBEq, s4], by simp (disch := first | (simp only [go_sem, gb0, eq_self]; done) | omega | (simp only [gl1, gl2]; omega)) only [go_sem, ↓reduceIte, Nat.reduceEqDiff, Nat.reduceAdd, Nat.reduceMul, Nat.reduceSub, Int.reduceToNat, Nat.reduceBEq, s5], by simp (disch := first | (simp only [go_sem, gb0, eq_self]; done) | omega | (simp only [gl1, gl2]; omega)) only [go_sem, ↓reduceIte, Nat.reduceEqDiff, Nat.reduceAdd, Nat.reduceMul, Nat.reduceSub, Int.reduceToNat, Nat.reduceBEq, s6], by simp (disch := first | (simp only [go_sem, gb0, eq_self]; done) | omega | (simp only [gl1, gl2]; omega)) only [go_sem, ↓reduceIte, Nat.reduceEqDiff, Nat.reduceAdd, Nat.reduceMul, Nat.reduceSub, Int.reduceToNat, Nat.reduceBEq, s13], by simp (disch := first | (simp only [go_sem, gb0, eq_self]; done) | omega | (simp only [gl1, gl2]; omega)) only [go_sem, ↓reduceIte, Nat.reduceEqDiff, Nat.reduceAdd, Nat.reduceMul, Nat.reduceSub, Int.reduceToNat, Nat.reduceBEq, hnx], by simp (disch := first | (simp only [go_sem, gb0, eq_self]; done) | omega | (simp only [gl1, gl2]; omega)) only [go_sem, ↓reduceIte, Nat.reduceEqDiff, Nat.reduceAdd, Nat.reduceMul, Nat.reduceSub, Int.reduceToNat, Nat.reduceBEq, b0], by simp (disch := first | (simp only [go_sem, gb0, eq_self]; done) | omega | (simp only [gl1, gl2]; omega)) only [go_sem, ↓reduceIte, Nat.reduceEqDiff, Nat.reduceAdd, Nat.reduceMul, Nat.reduceSub, Int.reduceToNat, Nat.reduceBEq, b1], by simp (disch := first | (simp only [go_sem, gb0, eq_self]; done) | omega | (simp only [gl1, gl2]; omega)) only [go_sem, ↓reduceIte, Nat.reduceEqDiff, Nat.reduceAdd, Nat.reduceMul, Nat.reduceSub, Int.reduceToNat, Nat.reduceBEq, b2], by simp (disch := first | (simp only [go_sem, gb0, eq_self]; done) | omega | (simp only [gl1, gl2]; omega)) only [go_sem, ↓reduceIte, Nat.reduceEqDiff, Nat.reduceAdd, Nat.reduceMul, Nat.reduceSub, Int.reduceToNat, Nat.reduceBEq], ?_⟩
        rcases hw with ⟨s30, s32⟩ | ⟨a, b, s30, s32⟩
        · exact .inl ⟨by simp (disch := first | (simp only [go_sem, gb0, eq_self]; done) | omega | (simp only [gl1, gl2]; omega)) only [go_sem, ↓reduceIte, Nat.reduceEqDiff, Nat.reduceAdd, Nat.reduceMul, Nat.reduceSub, Int.reduceToNat, Nat.reduceBEq, s30], by simp (disch := first | (simp only [go_sem, gb0, eq_self]; done) | omega | (simp only [gl1, gl2]; omega)) only [go_sem, ↓reduceIte, Nat.reduceEqDiff, Nat.reduceAdd, Nat.reduceMul, Nat.reduceSub, Int.reduceToNat, Nat.reduceBEq, s32]⟩
        · exact .inr ⟨a, b, by simp (disch := first | (simp only [go_sem, gb0, eq_self]; done) | omega | (simp only [gl1, gl2]; omega)) only [go_sem, ↓reduceIte, Nat.reduceEqDiff, Nat.reduceAdd, Nat.reduceMul, Nat.reduceSub, Int.reduceToNat, Nat.reduceBEq, s30], by simp (disch := first | (simp only [go_sem, gb0, eq_self]; done) | omega | (simp only [gl1, gl2]; omega)) only [go_sem, ↓reduceIte, Nat.reduceEqDiff, Nat.reduceAdd, Nat.reduceMul, Nat.reduceSub, Int.reduceToNat, Nat.reduceBEq, s32]⟩
  · rintro st h ⟨s4, s5, b2, b3⟩
    have hld : loadC (some (.array 6 85)) (some 42) (some (matA (eqX nx pay cost x n), 0)) = some (.agg (matA (eqX nx pay cost x n))) := by
      have := loadC_agg (.array 6 85) 42 rfl (matA (eqX nx pay cost x n)) 0 (by rw [matA_len]; omega)
      rw [this, List.drop_zero, List.take_of_length_le (by rw [matA_len]; omega)]
    have hst : storeC h 2 0 42 (some (.cells false false (matA fun _ _ => 0))) (matA (eqX nx pay cost x n)) = some (.skp, h.put 2 (some (.cells false false (matA (eqX nx pay cost x n))))) := by
      rw [storeC_many 2 0 42 false _ _ (matA_len _) (matA_cell _) (by rw [matA_len]; omega)]
      have := setL_all (matA fun _ _ => 0) (matA (eqX nx pay cost x n)) [] (by rw [matA_len, matA_len])
      simp only [List.nil_append, List.length_nil] at this
      rw [this]
    have hr : eqR nx pay cost x = .agg (matA (eqX nx pay cost x n)) := by rw [eqR, hn]
    simp (disch := first | (simp only [go_sem, gb0, eq_self]; done) | omega | (simp only [gl1, gl2]; omega)) only [go_sem, ↓reduceIte, Nat.reduceEqDiff, Nat.reduceAdd, Nat.reduceMul, Nat.reduceSub, Int.reduceToNat, Nat.reduceBEq, s4, s5, b2, b3, hld, hst, hr]
    exact export_pure _ _ (matA_pure _)
theorem own_cell {α : Type} {f : α → List AV} {sz : Nat} {v : AV} {xs : List α} (o : Go.Am.Own f sz h v xs) : v.isCell = true := by
  rcases o with ⟨rfl, _⟩ | ⟨id, rfl, _⟩ <;> rfl
theorem own_ne {α : Type} {f : α → List AV} {sz : Nat} {v : AV} {xs : List α} (o : Go.Am.Own f sz h v xs) {i : Nat} {fz : Bool} {flat : List AV} (hb : h.bl i = some (.cells fz false flat)) : ∀ id off n sz', v = .sl id off n sz' → i ≠ id := by
  intro id off n sz' e he
  rcases o with ⟨rfl, _⟩ | ⟨id', rfl, _, hc⟩
  · cases e
  · cases e; subst he; rw [hb] at hc; cases hc
end Go.Proofs.Ytgamcclfdkpcgaa

set_option linter.unusedVariables false
set_option linter.unusedSimpArgs false
set_option maxRecDepth 10000
namespace Go.Proofs.Ytgamcclfdkpcgaa
open Go Go.Am

variable {h h' : Hp} {K : AV → Hp → Prop}

def listM (l : List Int) : List Int := l.take (min l.length 8)
theorem f28_con (l : List Int) (hl : l.length ≤ maxLen) : Con Try.prog cfg 28 [LI l] (LI (listM l)) := by
  have ml : maxLen = 9223372036854775807 := by decide
  have hmin : min (l.length : Int) 8 = ((min l.length 8 : Nat) : Int) := by omega
  have htl : (listM l).length = min l.length 8 := by rw [listM, List.length_take]; omega
  have hrow : l.take (min l.length 8) = listM l := rfl
  have happ1 := fun h => app_nil (P := Try.prog) (h := h) (f := e1 I) 3 8 (I 0) (LI (listM l)) (listM l) isz3 ibytes3 izero3 rfl (cellsOf_L _ _) (lenA_L _ _) (by omega) (by omega)
  refine Con_intro Try.func28 rfl ok28 (Nat.le_of_ble_eq_true rfl) rfl ?_
  simp only [Try.f28, Option.getD_some, initSt1]
  simp (disch := first | (simp only [go_sem, gb0, eq_self]; done) | omega | (simp only [gl1, gl2]; omega)) only [go_sem, ↓reduceIte, Nat.reduceEqDiff, Nat.reduceAdd, Nat.reduceMul, Nat.reduceSub, Int.reduceToNat, Nat.reduceBEq, hmin, hrow, happ1]
  exact export_Own (f := e1 I) 23 (.inr ⟨0, rfl, Nat.lt_succ_self 0, rfl⟩)
theorem k28 (l : List Int) (hl : l.length ≤ maxLen) : ConW Try.prog cfg 28 h (some ([LI l], h')) K = K (LI (listM l)) h' := by
  rw [ConW_any (f28_con l hl) rfl]; rfl
structure okN (nx : List (List Int)) (pay cost : List Int) : Prop where
  n : nx.length ≤ maxLen
  row : ∀ l ∈ nx, l.length ≤ maxLen
  p : pay.length ≤ maxLen
  c : cost.length ≤ maxLen
def nxM (nx : List (List Int)) : List (List Int) := (List.range (min nx.length 8)).map fun i => listM (nth nx i)
def chV (nx : List (List Int)) (pay cost : List Int) : AV := if nx = [] then .agg [.nil, LI pay, LI cost] else chA nx pay cost
theorem own_put {α : Type} {f : α → List AV} {sz : Nat} {v : AV} {xs : List α} (o : Go.Am.Own f sz h v xs) {i : Nat} {fz : Bool} {flat : List AV} (hb : h.bl i = some (.cells fz false flat)) (b : Option Blk) : Go.Am.Own f sz (h.put i b) v xs := by
  have hne := own_ne o hb
  rcases o with o | ⟨id, e, hi, hc⟩
  · exact .inl o
  · refine .inr ⟨id, e, hi, ?_⟩
    rw [put_bl, if_neg (fun h => hne _ _ _ _ e h.symm)]; exact hc
theorem export_ch (t : TypeId) {v : AV} {xs : List (List Int)} {p c : List Int} (o : Go.Am.Own (e1 LI) 1 h v xs) (hv : xs = [] → v = .nil) : exportR Try.prog false false [t] h (.agg [v, LI p, LI c]) = some (chV xs p c) := by
  have hx : exportR Try.prog false false [t] h (.agg [v, LI p, LI c]) = (sealA h (.agg [v, LI p, LI c])).bind fun r => if isTup r.1 then none else some r.1 := by
    show (exportV Try.prog false false t h [] (.agg [v, LI p, LI c])).bind _ = _
    rw [exportV_plain]
    cases sealA h (.agg [v, LI p, LI c]) <;> rfl
  rw [hx]
  by_cases hxs : xs = []
  · rw [hv hxs, chV, if_pos hxs]
    rw [sealA_agg _ (by simp only [AV.pureL, pure_L, Bool.and_true]; rfl)]; rfl
  · rcases o with ⟨_, e⟩ | ⟨id, rfl, hi, hc⟩
    · exact (hxs e).elim
    · obtain ⟨g1, r1, n1, b1⟩ := sealA_Own (f := e1 LI) (xs := xs) (.inr ⟨id, rfl, hi, hc⟩)
      have s1 : sealV h (.sl id 0 xs.length 1) = some (LLI xs, g1) := r1
      have s2 : ∀ (g : Hp) (l : List Int), sealV g (LI l) = some (LI l, g) := fun g l => by
        show sealV0 g (LI l) = _
        unfold sealV0
        rw [if_pos (pure_L _)]
      have sc : sealCells h [.sl id 0 xs.length 1, LI p, LI c] = some ([LLI xs, LI p, LI c], g1) := by simp only [sealCells, s1, s2, Option.bind_some, Option.map_some]
      have : sealA h (.agg [.sl id 0 xs.length 1, LI p, LI c]) = some (.agg [LLI xs, LI p, LI c], g1) := by
        have hp : (AV.agg [.sl id 0 xs.length 1, LI p, LI c]).isPure = false := rfl
        simp only [sealA, hp, sc, Option.map_some]
        rfl
      rw [this, chV, if_neg hxs]
      rfl
theorem f17_con (nx : List (List Int)) (pay cost : List Int) (hk : okN nx pay cost) : Con Try.prog cfg 17 [chA nx pay cost] (chV (nxM nx) (listM pay) (listM cost)) := by
  have ml : maxLen = 9223372036854775807 := by decide
  have hn := hk.n
  have hal : ∀ g : Hp, allocB g (some (chA nx pay cost)) = some (.ptr g.nx 0, g.alloc (.cells false false [LLI nx, LI pay, LI cost])) := fun g => allocB_agg _ rfl
  have kp := fun h h' K => k28 (h := h) (h' := h') (K := K) pay hk.p
  have kc := fun h h' K => k28 (h := h) (h' := h') (K := K) cost hk.c
  have hal2 : ∀ g : Hp, allocB g (some (.agg [.nil, .nil, .nil])) = some (.ptr g.nx 0, g.alloc (.cells false false [.nil, .nil, .nil])) := fun g => allocB_agg _ rfl
  refine Con_intro Try.func17 rfl ok17 (Nat.le_of_ble_eq_true rfl) rfl ?_
  simp only [Try.f17, Option.getD_some, initSt1]
  have h03 : st0 3 = .skp := rfl
  have hbd : buildB Try.prog (Try.prog.underlying 25) (izero Try.prog 25) [(1, LI (listM pay)), (2, LI (listM cost))] = some (.agg [.nil, LI (listM pay), LI (listM cost)]) := by kernel_rfl
  simp only [und25, izero25] at hbd
  have hs3 : ∀ (g : Hp) (id : Nat), storeC g id 0 3 (some (.cells false false [.nil, .nil, .nil])) [.nil, LI (listM pay), LI (listM cost)] = some (.skp, g.put id (some (.cells false false [.nil, LI (listM pay), LI (listM cost)]))) := fun g id => by simp [storeC, setL, AV.isCell]
  simp (maxSteps := 3000000) (disch := first | (simp only [go_sem, gb0, eq_self]; done) | omega | (simp only [gl1, gl2]; omega)) only [go_sem, ↓reduceIte, Nat.reduceEqDiff, Nat.reduceAdd, Nat.reduceMul, Nat.reduceSub, Int.reduceToNat, Nat.reduceBEq, hal, kp, kc, h03, hbd, hs3, List.filterMap_cons, List.filterMap_nil, List.contains_nil, List.contains_cons, Bool.not_false, Bool.not_true, Bool.or_true, Bool.true_or, List.nil_append, List.cons_append, Nat.reduceLT, decide_true, decide_false, List.drop_succ_cons]
  obtain ⟨fr, hfr⟩ : ∃ fr : Nat → List Int, fr = fun i => listM (nth nx i) := ⟨_, rfl⟩
  have hnm : nxM nx = (List.range (min nx.length 8)).map fr := by rw [hfr, nxM]
  obtain ⟨P, hP⟩ : ∃ P, P = listM pay := ⟨_, rfl⟩
  obtain ⟨C, hC⟩ : ∃ C, C = listM cost := ⟨_, rfl⟩
  rw [← hP, ← hC]
  refine WP_cut (fun st h => st 2 = .ptr 1 0 ∧ st 3 = .ptr 2 0 ∧ 3 ≤ h.nx ∧ h.bl 1 = some (.cells false false [.nil, .nil, .nil]) ∧ ∃ v, h.bl 2 = some (.cells false false [v, LI P, LI C]) ∧ Go.Am.Own (e1 LI) 1 h v (nxM nx) ∧ (nxM nx = [] → v = .nil)) ?_ ?_
  · refine WP_for 4 (min nx.length 8) (fun i st h => st 1 = .ptr 0 0 ∧ st 2 = .ptr 1 0 ∧ st 3 = .ptr 2 0 ∧ 3 ≤ h.nx ∧ h.bl 0 = some (.cells false false [LLI nx, LI pay, LI cost]) ∧ h.bl 1 = some (.cells false false [.nil, .nil, .nil]) ∧ ∃ v, h.bl 2 = some (.cells false false [v, LI P, LI C]) ∧ Go.Am.Own (e1 LI) 1 h v ((List.range i).map fr) ∧ (i = 0 → v = .nil)) (by simp (disch := first | (simp only [go_sem, gb0, eq_self]; done) | omega | (simp only [gl1, gl2]; omega)) only [go_sem, ↓reduceIte, Nat.reduceEqDiff, Nat.reduceAdd, Nat.reduceMul, Nat.reduceSub, Int.reduceToNat, Nat.reduceBEq])
      ⟨by simp (disch := first | (simp only [go_sem, gb0, eq_self]; done) | omega | (simp only [gl1, gl2]; omega)) only [go_sem, ↓reduceIte, Nat.reduceEqDiff, Nat.reduceAdd, Nat.reduceMul, Nat.reduceSub, Int.reduceToNat, Nat.reduceBEq], by simp (disch := first | (simp only [go_sem, gb0, eq_self]; done) | omega | (simp only [gl1, gl2]; omega)) only [go_sem, ↓reduceIte, Nat.reduceEqDiff, Nat.reduceAdd, Nat.reduceMul, Nat.reduceSub, Int.reduceToNat, Nat.reduceBEq], by simp (disch := first | (simp only [go_sem, gb0, eq_self]; done) | omega | (simp only [gl1, gl2]; omega)) only [go_sem, ↓reduceIte, Nat.reduceEqDiff, Nat.reduceAdd, Nat.reduceMul, Nat.reduceSub, Int.reduceToNat, Nat.reduceBEq], by simp (disch := first | (simp only [go_sem, gb0, eq_self]; done) | omega | (simp only [gl1, gl2]; omega)) only [go_sem, ↓reduceIte, Nat.reduceEqDiff, Nat.reduceAdd, Nat.reduceMul, Nat.reduceSub, Int.reduceToNat, Nat.reduceBEq]; decide, by simp (disch := first | (simp only [go_sem, gb0, eq_self]; done) | omega | (simp only [gl1, gl2]; omega)) only [go_sem, ↓reduceIte, Nat.reduceEqDiff, Nat.reduceAdd, Nat.reduceMul, Nat.reduceSub, Int.reduceToNat, Nat.reduceBEq], by simp (disch := first | (simp only [go_sem, gb0, eq_self]; done) | omega | (simp only [gl1, gl2]; omega)) only [go_sem, ↓reduceIte, Nat.reduceEqDiff, Nat.reduceAdd, Nat.reduceMul, Nat.reduceSub, Int.reduceToNat, Nat.reduceBEq], .nil, by (rw [hP, hC]; simp (disch := first | (simp only [go_sem, gb0, eq_self]; done) | omega | (simp only [gl1, gl2]; omega)) only [go_sem, ↓reduceIte, Nat.reduceEqDiff, Nat.reduceAdd, Nat.reduceMul, Nat.reduceSub, Int.reduceToNat, Nat.reduceBEq]), .inl ⟨rfl, rfl⟩, fun _ => rfl⟩ ?_
    rintro i st h hi s4 ⟨s1, s2, s3, hnx, b0, b1, v, b2, ov, hv0⟩
    have fin : i = min nx.length 8 → Go.Am.Own (e1 LI) 1 h v (nxM nx) ∧ (nxM nx = [] → v = .nil) := fun hie => by
      rw [hnm, ← hie]
      refine ⟨ov, fun e => hv0 ?_⟩
      have := congrArg List.length e
      simpa using this
    by_cases hlt : i < nx.length
    case neg =>
      have hf := fin (by omega)
      simp (disch := first | (simp only [go_sem, gb0, eq_self]; done) | omega | (simp only [gl1, gl2]; omega)) only [go_sem, ↓reduceIte, Nat.reduceEqDiff, Nat.reduceAdd, Nat.reduceMul, Nat.reduceSub, Int.reduceToNat, Nat.reduceBEq, s1, s2, s3, s4, b0, hlt]
      exact ⟨hnx, b1, v, b2, hf⟩
    by_cases h8 : (i : Int) < 8
    case neg =>
      have hf := fin (by omega)
      simp (disch := first | (simp only [go_sem, gb0, eq_self]; done) | omega | (simp only [gl1, gl2]; omega)) only [go_sem, ↓reduceIte, Nat.reduceEqDiff, Nat.reduceAdd, Nat.reduceMul, Nat.reduceSub, Int.reduceToNat, Nat.reduceBEq, s1, s2, s3, s4, b0, hlt, h8]
      exact ⟨hnx, b1, v, b2, hf⟩
    have hil : (i : Int) < nx.length := by omega
    have kr := fun h h' K => k28 (h := h) (h' := h') (K := K) (nth nx i) (hk.row _ (nth_mem hlt))
    have hri : listM (nth nx i) = fr i := by rw [hfr]
    rw [hri] at kr
    have hbs := fun h => bsB_one (P := Try.prog) 23 (LI (fr i)) (LI (fr i)) .nil h isz23 izero23 rfl rfl rfl (sealA_L _) rfl rfl (pure_L _)
    have happ := app_one (P := Try.prog) ov 23 24 .nil (fr i) isz23 ibytes23 izero23 rfl (by simp; omega) (by simp; omega)
    have hst3 : ∀ (g : Hp) (x : AV) (a b c d : Nat), storeC g 2 0 1 (some (.cells false false [x, LI P, LI C])) [.sl a b c d] = some (.skp, g.put 2 (some (.cells false false [.sl a b c d, LI P, LI C]))) := fun g x a b c d => by simp [storeC, setL, AV.isCell]
    have n2 := own_ne ov b2
    have n1 := own_ne ov b1
    have n0 := own_ne ov b0
    have h2n : 2 < h.nx := by omega
    have a2 : (appH h v (((List.range i).map fr ++ [fr i]).flatMap (e1 LI))).bl 2 = some (.cells false false [v, LI P, LI C]) := by rw [appH_bl _ _ _ _ h2n n2]; exact b2
    have a1 : (appH h v (((List.range i).map fr ++ [fr i]).flatMap (e1 LI))).bl 1 = some (.cells false false [.nil, .nil, .nil]) := by rw [appH_bl _ _ _ _ (by omega) n1]; exact b1
    have a0 : (appH h v (((List.range i).map fr ++ [fr i]).flatMap (e1 LI))).bl 0 = some (.cells false false [LLI nx, LI pay, LI cost]) := by rw [appH_bl _ _ _ _ (by omega) n0]; exact b0
    have an : (appH h v (((List.range i).map fr ++ [fr i]).flatMap (e1 LI))).nx = h.nx + 1 := appH_nx _ _ _
    have ao : Go.Am.Own (e1 LI) 1 (appH h v (((List.range i).map fr ++ [fr i]).flatMap (e1 LI))) (appV h ((List.range i).map fr ++ [fr i]).length 1) ((List.range (i + 1)).map fr) := by
      have := Own.app (f := e1 LI) (sz := 1) h v ((List.range i).map fr ++ [fr i])
      rw [← rows_snoc]; exact this
    have av : appV h ((List.range i).map fr ++ [fr i]).length 1 = .sl h.nx 0 ((List.range i).map fr ++ [fr i]).length 1 := rfl
    rw [av] at happ ao
    generalize appH h v (((List.range i).map fr ++ [fr i]).flatMap (e1 LI)) = g at *
    simp (disch := first | (simp only [go_sem, gb0, eq_self]; done) | omega | (simp only [gl1, gl2]; omega)) only [go_sem, ↓reduceIte, Nat.reduceEqDiff, Nat.reduceAdd, Nat.reduceMul, Nat.reduceSub, Int.reduceToNat, Nat.reduceBEq, s1, s2, s3, s4, b0, b2, hlt, hil, h8, kr, hbs, happ, a2, hst3]
    rw [ForK_normal]
    refine ⟨by omega, by simp (disch := first | (simp only [go_sem, gb0, eq_self]; done) | omega | (simp only [gl1, gl2]; omega)) only [go_sem, ↓reduceIte, Nat.reduceEqDiff, Nat.reduceAdd, Nat.reduceMul, Nat.reduceSub, Int.reduceToNat, Nat.reduceBEq, s4], by simp (disch := first | (simp only [go_sem, gb0, eq_self]; done) | omega | (simp only [gl1, gl2]; omega)) only [go_sem, ↓reduceIte, Nat.reduceEqDiff, Nat.reduceAdd, Nat.reduceMul, Nat.reduceSub, Int.reduceToNat, Nat.reduceBEq, s1], by simp (disch := first | (simp only [go_sem, gb0, eq_self]; done) | omega | (simp only [gl1, gl2]; omega)) only [go_sem, ↓reduceIte, Nat.reduceEqDiff, Nat.reduceAdd, Nat.reduceMul, Nat.reduceSub, Int.reduceToNat, Nat.reduceBEq, s2], by simp (disch := first | (simp only [go_sem, gb0, eq_self]; done) | omega | (simp only [gl1, gl2]; omega)) only [go_sem, ↓reduceIte, Nat.reduceEqDiff, Nat.reduceAdd, Nat.reduceMul, Nat.reduceSub, Int.reduceToNat, Nat.reduceBEq, s3], by simp (disch := first | (simp only [go_sem, gb0, eq_self]; done) | omega | (simp only [gl1, gl2]; omega)) only [go_sem, ↓reduceIte, Nat.reduceEqDiff, Nat.reduceAdd, Nat.reduceMul, Nat.reduceSub, Int.reduceToNat, Nat.reduceBEq, an]; omega, by simp (disch := first | (simp only [go_sem, gb0, eq_self]; done) | omega | (simp only [gl1, gl2]; omega)) only [go_sem, ↓reduceIte, Nat.reduceEqDiff, Nat.reduceAdd, Nat.reduceMul, Nat.reduceSub, Int.reduceToNat, Nat.reduceBEq, a0], by simp (disch := first | (simp only [go_sem, gb0, eq_self]; done) | omega | (simp only [gl1, gl2]; omega)) only [go_sem, ↓reduceIte, Nat.reduceEqDiff, Nat.reduceAdd, Nat.reduceMul, Nat.reduceSub, Int.reduceToNat, Nat.reduceBEq, a1], _, by simp (disch := first | (simp only [go_sem, gb0, eq_self]; done) | omega | (simp only [gl1, gl2]; omega)) only [go_sem, ↓reduceIte, Nat.reduceEqDiff, Nat.reduceAdd, Nat.reduceMul, Nat.reduceSub, Int.reduceToNat, Nat.reduceBEq]; rfl, ?_, fun h => by omega⟩
    exact own_put ao a2 _
  · rintro st h ⟨s2, s3, hnx, b1, v, b2, ov, hv⟩
    have hc := own_cell ov
    have hs3 : ∀ (g : Hp) (id : Nat), storeC g id 0 3 (some (.cells false false [.nil, .nil, .nil])) [v, LI P, LI C] = some (.skp, g.put id (some (.cells false false [v, LI P, LI C]))) := fun g id => by
      have h1 : (LI P).isCell = true := rfl
      have h2 : (LI C).isCell = true := rfl
      simp [storeC, setL, hc, h1, h2]
    simp (disch := first | (simp only [go_sem, gb0, eq_self]; done) | omega | (simp only [gl1, gl2]; omega)) only [go_sem, ↓reduceIte, Nat.reduceEqDiff, Nat.reduceAdd, Nat.reduceMul, Nat.reduceSub, Int.reduceToNat, Nat.reduceBEq, s2, s3, b1, b2, hs3]
    exact export_ch 25 (own_put ov b1 _) hv
end Go.Proofs.Ytgamcclfdkpcgaa
