/-
  TopWalk: up to where the numbers are small.
-/
import Derived.Test.YtihnplomlphfjaaTR0Facts
import Derived.Test.YtihnplomlphfjaaTR1Facts
import Derived.Test.YtihnplomlphfjaaTR2Facts
import Derived.Test.YtihnplomlphfjaaTR3Facts
import Derived.Test.YtihnplomlphfjaaTR4Facts
import Derived.Test.YtihnplomlphfjaaAmDeep
set_option linter.unusedVariables false
set_option linter.unusedSimpArgs false
set_option maxRecDepth 10000
namespace Go.Proofs.Ytihnplomlphfjaa
open Go Go.Am

def pickW (r : List (List Int)) : Option AV :=
  if r = rowsW (nth (nth r 0) 3) (nth (nth r 1) 3) ∧ (0 ≤ nth (nth r 0) 3 ∧ nth (nth r 0) 3 ≤ 4) ∧ (0 ≤ nth (nth r 1) 3 ∧ nth (nth r 1) 3 ≤ 4) then some (.tup [valsW (nth (nth r 0) 3) (nth (nth r 1) 3), I 0]) else none
def extR : List AV → Option AV
  | [.agg [.lst rs, .lst [[.int .i64 0], [.int .i64 0], [.int .i64 0], [.int .i64 0], [.int .i64 0], [.int .i64 1]], .lst [[.int .i64 0], [.int .i64 0], [.int .i64 0], [.int .i64 0], [.int .i64 0], [.int .i64 0]]], .lst [[.int .i64 4], [.int .i64 5]]] => (decLL rs).bind pickW
  | _ => none
def extV (f : FuncId) (args : List AV) : Option AV := if f = 13 then extR args else extT f args
def cfgV : Cfg := { own := fun _ => false, keepNil := fun _ => false, shared := fun f => f == 45, ext := extV, strict := S.cfg.strict, wr := S.cfg.wr }
@[go_sem] theorem cfgV_deep : cfgV.deep = false := by kernel_rfl
@[go_sem] theorem cfgV_strict (a b : Nat) : cfgV.strict a b = ((a == 1 && b == 9) || (a == 3 && b == 6) || (a == 7 && b == 15)) := rfl
theorem ruleW_pure (a b : Int) (ha : 0 ≤ a ∧ a ≤ 4) (hb : 0 ≤ b ∧ b ≤ 4) : PureOk Try.prog 13 [chainW a b, LI [4, 5]] (.tup [valsW a b, I 0]) := by
  have go : ∀ {c d : Int}, callP Try.prog cfgT 300 13 [chainW c d, LI [4, 5]] = some (.tup [valsW c d, I 0]) → PureOk Try.prog 13 [chainW c d, LI [4, 5]] (.tup [valsW c d, I 0]) := fun h => (sound hextT 300).2.2.1 _ _ _ h
  rcases (by omega : a = 0 ∨ a = 1 ∨ a = 2 ∨ a = 3 ∨ a = 4) with rfl | rfl | rfl | rfl | rfl <;> rcases (by omega : b = 0 ∨ b = 1 ∨ b = 2 ∨ b = 3 ∨ b = 4) with rfl | rfl | rfl | rfl | rfl
  · exact go rule_0_0
  · exact go rule_0_1
  · exact go rule_0_2
  · exact go rule_0_3
  · exact go rule_0_4
  · exact go rule_1_0
  · exact go rule_1_1
  · exact go rule_1_2
  · exact go rule_1_3
  · exact go rule_1_4
  · exact go rule_2_0
  · exact go rule_2_1
  · exact go rule_2_2
  · exact go rule_2_3
  · exact go rule_2_4
  · exact go rule_3_0
  · exact go rule_3_1
  · exact go rule_3_2
  · exact go rule_3_3
  · exact go rule_3_4
  · exact go rule_4_0
  · exact go rule_4_1
  · exact go rule_4_2
  · exact go rule_4_3
  · exact go rule_4_4
theorem hextV : ExtOk Try.prog cfgV := by
  intro f args r he
  have he : extV f args = some r := he
  unfold extV at he
  split at he
  · rename_i hf
    subst hf
    have he : extR args = some r := he
    unfold extR at he
    split at he
    · obtain ⟨q, h1, h2⟩ := Option.bind_eq_some_iff.1 he
      unfold pickW at h2
      split at h2
      · rename_i hq
        cases h2
        refine ⟨?_, fun _ => ?_⟩
        · have := ruleW_pure _ _ hq.2.1 hq.2.2
          rw [decLL_eq h1]
          unfold chainW at this
          rw [← hq.1] at this
          exact this
        · rfl
      · cases h2
    · cases he
  · exact hextT f args r he

theorem okV5 : funcOk cfgV Try.f5 (Try.f5.body.getD .skip) = true := by kernel_rfl
theorem okV4 : funcOk cfgV Try.f4 (Try.f4.body.getD .skip) = true := by kernel_rfl
@[go_sem] theorem ownV (f : FuncId) : cfgV.own f = false := by kernel_rfl
@[go_sem] theorem knV (f : FuncId) : cfgV.keepNil f = false := by kernel_rfl
@[go_sem] theorem shrV5 : cfgV.shared 5 = false := by kernel_rfl
theorem f5_conV (x n : Int) (h0 : 0 < n) (h1 : n ≤ 9223372036854775807) : Con Try.prog cfgV 5 [I x, I n] (I (modI x n)) := by
  unfold modI
  refine Con_intro Try.func5 rfl okV5 (Nat.le_of_ble_eq_true rfl) rfl ?_
  simp only [Try.f5, Option.getD_some, initSt2]
  have e1 : IntKind.u64.wrap n = n := by rw [wrap_u64]; omega
  have e2 : IntKind.u64.wrap x = x % 18446744073709551616 := wrap_u64 x
  have e3 : (x % 18446744073709551616).tmod n = x % 18446744073709551616 % n := Int.tmod_eq_emod_of_nonneg (by omega)
  have e4 : IntKind.i64.wrap (x % 18446744073709551616 % n) = x % 18446744073709551616 % n := wrap_ok _ (by have := Int.emod_nonneg (x % 18446744073709551616) (show n ≠ 0 by omega); omega) (by have := Int.emod_lt_of_pos (x % 18446744073709551616) h0; omega)
  simp (disch := first | (simp only [go_sem, Bool.and_self, eq_self]; done) | omega | (simp only [List.length_cons, List.length_nil]; omega)) only [go_sem, ↓reduceIte, Nat.reduceEqDiff, Nat.reduceAdd, Nat.reduceMul, Nat.reduceSub, Int.reduceToNat, Nat.reduceBEq, List.size_toArray, List.length_cons, List.length_nil, Bool.false_and, Bool.true_and, Bool.or_false, Bool.false_or, Bool.and_false, Bool.and_true, e1, e2, e3, e4]

def okRet : Exit → AV → Bool
  | .ret, .bool true => true
  | _, _ => false
noncomputable def runB (k : Nat) (c : Code) (st : St) (h : Hp) : Bool := match run Try.prog cfgV k c st h with
  | some (x, st', _) => okRet x (st' 4)
  | none => false
theorem WPz_run (k : Nat) {c b : Code} {st : St} {h : Hp} (he : runB k (.seq c b) st h = true) : WPz Try.prog cfgV c st h (SeqK Try.prog cfgV b (RetK Try.prog false false [.tmp 4] [4] (.bool true))) := by
  show WP Try.prog cfgV c st h (SeqK Try.prog cfgV b (RetK Try.prog false false [.tmp 4] [4] (.bool true)))
  rw [← WP_seq]
  unfold runB at he
  split at he
  · rename_i x st' h' e
    refine ⟨k, x, st', h', e, ?_⟩
    unfold okRet at he
    split at he
    · rename_i e4
      refine ⟨.inr rfl, .bool true, ?_, rfl⟩
      show (resR Try.prog h' st' [.tmp 4]) = _
      simp [resR, resL, resA, e4]
    · cases he
  · cases he
/-- What is left to be run. -/
noncomputable def restW : Code := match Try.f4.body with
  | some (.seq _ (.seq _ (.seq _ c))) => c
  | _ => .skip
def stW (x y z f a b : Int) : St := (upd (upd (upd (upd (upd (upd (upd (upd (upd (upd (upd (upd (upd (upd (upd st0 0 (I x)) 1 (AV.agg [I y, I z])) 3 (AV.ptr 0 0)) 4 (AV.bool false)) 17 (I x)) 18 (I f)) 0 (I f)) 19 (AV.ptr 0 0)) 20 (I y)) 21 (I a)) 22 (AV.ptr 0 1)) 23 (I z)) 24 (I b)) 5 (I a)) 6 (I b))
noncomputable def chkW (x y z f a b : Int) : Bool := runB 300 restW (stW x y z f a b) (Hp.empty.alloc (Blk.cells false false [I y, I z]))
set_option maxHeartbeats 1000000 in
theorem f4_try (x y z : Int) (f a b : Int) (hf : modI x 2 = f) (ha : modI y 5 = a) (hb : modI z 5 = b) (hc : chkW x y z f a b = true) : Con Try.prog cfgV 4 [I x, .agg [I y, I z]] (.bool true) := by
  have k1 := fun h h' K => ConW_num (h := h) (h' := h') (K := K) (f5_conV x 2 (by omega) (by omega)) rfl
  have k2 := fun h h' K => ConW_num (h := h) (h' := h') (K := K) (f5_conV y 5 (by omega) (by omega)) rfl
  have k3 := fun h h' K => ConW_num (h := h) (h' := h') (K := K) (f5_conV z 5 (by omega) (by omega)) rfl
  rw [hf] at k1
  rw [ha] at k2
  rw [hb] at k3
  refine Con_intro Try.func4 rfl okV4 (Nat.le_of_ble_eq_true rfl) rfl ?_
  simp only [Try.f4, Option.getD_some, initSt2]
  simp (disch := first | (simp only [go_sem, Bool.and_self, eq_self]; done) | omega | (simp only [List.length_cons, List.length_nil]; omega)) only [go_sem, ↓reduceIte, Nat.reduceEqDiff, Nat.reduceAdd, Nat.reduceMul, Nat.reduceSub, Int.reduceToNat, Nat.reduceBEq, List.size_toArray, List.length_cons, List.length_nil, Bool.false_and, Bool.true_and, Bool.or_false, Bool.false_or, Bool.and_false, Bool.and_true, k1, k2, k3, ↓stopZ 3 false]
  exact WPz_run 300 hc
end Go.Proofs.Ytihnplomlphfjaa
