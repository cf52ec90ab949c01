/-
  best: its answer handed over.
  Best and Rule: their answers handed over.
  'StopOwn' answers true.
-/
import Derived.Test.YtgamcclfdkpcgaaL2M3
set_option linter.unusedVariables false
set_option linter.unusedSimpArgs false
set_option maxRecDepth 10000
namespace Go.Proofs.Ytgamcclfdkpcgaa
open Go Go.Am Go.RowKit

variable {h h' : Hp} {K : AV → Hp → Prop}

theorem best_own (nx : List (List Int)) (pay cost : List Int) (hn : nx.length ≤ 6) {snd bst : Nat → Bool} {eq : Nat → AV} {val : Nat → List (Int × Int)} (Y : Ways (.agg [LLI nx, LI pay, LI cost]) nx.length snd bst eq val)
    (Y55 : ∀ x, snd x = true → Con Try.prog cfgQ 55 [eq x, I nx.length] (.fresh 2 ((val x).flatMap eP))) : PureOk Try.prog 49 [.agg [LLI nx, LI pay, LI cost]] (.fresh 2 ((firstOf snd bst val (List.range (2 ^ nx.length))).flatMap eP)) := by
  refine ⟨⟨_, Try.func49, rfl, by rfl⟩, fun w fz vs hf ha R hR => ?_⟩
  have H0 := ctx_nil (w := w) hf
  obtain ⟨c0, hc0⟩ : ∃ c : Ctx, c = { base := w.heap.size, nx := 0, loc := fun _ => .dead, fz := fz } := ⟨_, rfl⟩
  rw [← hc0] at H0
  have ha' : ArgsR w c0 [.agg [LLI nx, LI pay, LI cost]] vs := by
    refine ⟨ha.1, fun j u hu => ?_⟩
    rw [hc0]; exact VR.base_any (ha.2 j u hu)
  have S0 := args_start ha' (n := 25) (Nat.le_of_ble_eq_true rfl)
  refine (callsIn_wide (n := 5)).1 ?_
  show CallsIn (rF none) 5 Try.prog 49 vs w R
  refine callsIn_of_wp_marks (fn := Try.f49) (c := Try.f49.body.getD .skip) Try.func49 rfl trivial ?_
  have hbase0 : c0.base = w.heap.size := by rw [hc0]
  have hfz0 : c0.fz = fz := by rw [hc0]
  have hntm : Try.f49.ntmps = 25 := rfl
  rw [hntm]
  obtain ⟨a0, ha0⟩ : ∃ a0 : Act, { tmps := vs ++ Array.replicate (25 - vs.size) Go.undef, defers := [] } = a0 := ⟨_, rfl⟩
  rw [ha0] at S0 ⊢
  have hal : ∀ g : Hp, allocB g (some (.agg [LLI nx, LI pay, LI cost])) = some (.ptr g.nx 0, g.alloc (.cells false false [LLI nx, LI pay, LI cost])) := fun g => allocB_agg _ rfl
  generalize hQ : bodyPostM (rF none) 5 Try.prog Try.f49 R = Q
  simp only [Try.f49, Option.getD_some]
  refine wpIn_seq (WP.in_ hextQ hlateQ 25 rfl rfl (R := fun x st h => x = .normal ∧ st 1 = .ptr 0 0 ∧ st 2 = .ptr 1 0 ∧ h = (Hp.empty.alloc (.cells false false [LLI nx, LI pay, LI cost])).alloc (.cells false false [.nil])) ?_ H0 S0 ?_)
  · simp only [initSt1]
    simp (disch := first | (simp only [go_sem, gb0, eq_self]; done) | omega | (simp only [gl1, gl2]; omega)) only [go_sem, ↓reduceIte, Nat.reduceEqDiff, Nat.reduceAdd, Nat.reduceMul, Nat.reduceSub, Int.reduceToNat, Nat.reduceBEq, hal]
  rintro x st h ⟨rfl, s1, s2, hh⟩ w1 c1 a1 E1 H1 S1 F1
  obtain ⟨n, hnn⟩ : ∃ n, n = nx.length := ⟨_, rfl⟩
  refine wpIn_seq (WP.in_ hextQ hlateQ 25 rfl rfl (R := fun x st h => x = .normal ∧ st 1 = .ptr 0 0 ∧ st 2 = .ptr 1 0 ∧ st 3 = .ptr 2 0 ∧ h.nx = 3 ∧ h.bl 0 = some (.cells false false [LLI nx, LI pay, LI cost]) ∧ h.bl 1 = some (.cells false false [.nil]) ∧ h.bl 2 = some (.cells false false [I n])) ?_ H1 S1 ?_)
  · rw [hh, hnn]
    simp (disch := first | (simp only [go_sem, gb0, eq_self]; done) | omega | (simp only [gl1, gl2]; omega)) only [go_sem, ↓reduceIte, Nat.reduceEqDiff, Nat.reduceAdd, Nat.reduceMul, Nat.reduceSub, Int.reduceToNat, Nat.reduceBEq, s1, s2]
  rintro x st h2 ⟨rfl, s1, s2, s3, hnx, b0, b1, b2⟩ w2 c2 a2 E2 H2 S2 F2
  have k68 := fun h h' K => ConW_any (h := h) (h' := h') (K := K) (toQc (by decide) (f68_con n)) rfl
  have hi68 : ∀ h : Hp, importR h (.fn 81 [.pp [I n]]) = (.fn 81 [.pp [I n]], h) := fun _ => rfl
  refine wpIn_seq (wpIn_seq (WP.in_ hextQ hlateQ 25 rfl rfl (R := fun x st h => x = .normal ∧ st 1 = .ptr 0 0 ∧ st 2 = .ptr 1 0 ∧ st 3 = .ptr 2 0 ∧ st 10 = .fn 81 [.pp [I n]] ∧ h = h2) ?_ H2 S2 ?_))
  · simp (disch := first | (simp only [go_sem, gb0, eq_self]; done) | omega | (simp only [gl1, gl2]; omega)) only [go_sem, ↓reduceIte, Nat.reduceEqDiff, Nat.reduceAdd, Nat.reduceMul, Nat.reduceSub, Int.reduceToNat, Nat.reduceBEq, s1, s2, s3, b2, k68, hi68]
  rintro x st h3 ⟨rfl, s1, s2, s3, s10, rfl⟩ w3 c3 a3 E3 H3 S3 F3
  obtain ⟨ad, e10, hcell, hadb⟩ := fn_inv (by have := S3.ev (.tmp 10); rwa [show ev st (.tmp 10) = st 10 from rfl, s10] at this)
  refine wpIn_block ?_
  refine range_law (m := 4) e10 (enters81) (rules_seq n (by omega) 4 ad w3 hadb hcell) (fun _ => rfl)
    (fun xs => ∀ x ∈ xs, (snd x && bst x) = false)
    (fun xs => LeftR w3 c3 (fun h => ∃ pre y, xs = pre ++ [y] ∧ (∀ x ∈ pre, (snd x && bst x) = false) ∧ (snd y && bst y) = true ∧ 4 < h.nx ∧ h.bl 1 = some (.cells false false [.sl 4 0 (val y).length 2]) ∧ h.bl 4 = some (.cells false true ((val y).flatMap eP))))
    (fun x hx => by cases hx) (fun xs W o o' l hle hl ho ho' q => q.turn H3 hle hl ho ho') ?round ?done ?stop
  case round =>
    refine round_WP hextQ hlateQ 25 H3 S3 (by decide) rfl rfl rfl (by kernel_rfl) (encR_ok n) _ _ fun pre x hpre hlen => ?_
    obtain ⟨f0, f1, f2, f3, f4, f5, hru⟩ : ∃ f0 f1 f2 f3 f4 f5, uR n x = .agg [.bool f0, .bool f1, .bool f2, .bool f3, .bool f4, .bool f5] := by
      have hl := ruleN_len n n x
      unfold uR
      match ruleN n n x, hl with
      | [a, b, c, d, e, f], _ => exact ⟨a, b, c, d, e, f, rfl⟩
    have k54 := fun h h' K => ConW_num (h := h) (h' := h') (K := K) (toQc (by decide) (Y.sound x)) rfl
    rw [← hnn, hru] at k54
    rw [hru]
    have hst6 : ∀ (h : Hp) (id : Nat), storeC h id 0 6 (some (.cells false false [.bool false, .bool false, .bool false, .bool false, .bool false, .bool false])) [.bool f0, .bool f1, .bool f2, .bool f3, .bool f4, .bool f5] = some (.skp, h.put id (some (.cells false false [.bool f0, .bool f1, .bool f2, .bool f3, .bool f4, .bool f5]))) := fun h id => by simp [storeC, setL, AV.isCell]
    have hld6 : loadC (some (.array 6 4)) (some 6) (some ([.bool f0, .bool f1, .bool f2, .bool f3, .bool f4, .bool f5], 0)) = some (.agg [.bool f0, .bool f1, .bool f2, .bool f3, .bool f4, .bool f5]) := loadC_agg _ 6 rfl _ 0 (by simp)
    have vA1 : viewSt h3 st 1 = .pp [LLI nx, LI pay, LI cost] := by
      simp only [viewSt, s1, viewV, b0, AV.pureL, pure_L, Bool.and_self, if_true, List.drop_zero]
    have vA3 : viewSt h3 st 3 = .pp [I n] := by
      simp only [viewSt, s3, viewV, b2]; rfl
    cases hs : snd x with
    | false =>
      left
      simp (disch := first | (simp only [go_sem, gb0, eq_self]; done) | omega | (simp only [gl1, gl2]; omega)) only [go_sem, ↓reduceIte, Nat.reduceEqDiff, Nat.reduceAdd, Nat.reduceMul, Nat.reduceSub, Int.reduceToNat, Nat.reduceBEq, vA1, vA3, hst6, hld6, k54, hs]
      intro y hy
      rcases List.mem_append.1 hy with hy | hy
      · exact hpre y hy
      · rw [List.mem_singleton.1 hy, hs]; rfl
    | true =>
    obtain ⟨cs, heq, hpe⟩ := Y.pureE x hs
    have c56 := toQc (by decide) (Y.eqs x hs)
    have c55 := Y55 x hs
    rw [← hnn, hru] at c56
    rw [← hnn] at c55
    rw [heq] at c56 c55
    have k56 : ∀ (h : Hp) K, ConW Try.prog cfgQ 56 h (some ([.agg [LLI nx, LI pay, LI cost], .agg [.bool f0, .bool f1, .bool f2, .bool f3, .bool f4, .bool f5]], h)) K = K (.agg cs) h := fun h K => by
      cases hsc : (AV.agg cs).isScalar with
      | true => exact ConW_num c56 hsc
      | false => exact ConW_any c56 hsc
    have k55 := fun h h' K => ConW_any (h := h) (h' := h') (K := K) c55 rfl
    have dv : ∀ (xs : List (Int × Int)), (xs.flatMap eP).length / 2 = xs.length := fun xs => by rw [flatMap_len (f := eP) (sz := 2)]; omega
    have hso := fun (h : Hp) id => sealSl_own (h := h) (f := eP) (sz := 2) id (val x).length false true (val x) rfl
    have k69 := fun h h' K => ConW_num (h := h) (h' := h') (K := K) (toQc (by decide) (Y.best x hs)) rfl
    have hsE : ∀ h : Hp, sealA h (.agg cs) = some (.agg cs, h) := fun h => sealA_agg cs hpe
    cases hb : bst x with
    | false =>
      left
      simp (disch := first | (simp only [go_sem, gb0, eq_self]; done) | omega | (simp only [gl1, gl2]; omega)) only [go_sem, ↓reduceIte, Nat.reduceEqDiff, Nat.reduceAdd, Nat.reduceMul, Nat.reduceSub, Int.reduceToNat, Nat.reduceBEq, vA1, vA3, hst6, hld6, k54, hs, k56, hsE, k55, dv, hso, k69, hb]
      intro y hy
      rcases List.mem_append.1 hy with hy | hy
      · exact hpre y hy
      · rw [List.mem_singleton.1 hy, hs, hb]; rfl
    | true =>
      right
      have hstL : ∀ h : Hp, storeC h 1 0 1 (some (.cells false false [.nil])) [.sl 4 0 (val x).length 2] = some (.skp, h.put 1 (some (.cells false false [.sl 4 0 (val x).length 2]))) := fun h => storeC_single _ _ _ _ rfl
      simp (disch := first | (simp only [go_sem, gb0, eq_self]; done) | omega | (simp only [gl1, gl2]; omega)) only [go_sem, ↓reduceIte, Nat.reduceEqDiff, Nat.reduceAdd, Nat.reduceMul, Nat.reduceSub, Int.reduceToNat, Nat.reduceBEq, s1, s2, s3, hnx, b0, b1, b2, hst6, hld6, k54, hs, k56, hsE, k55, dv, hso, k69, hb, hstL]
      exact ⟨pre, x, rfl, hpre, by rw [hs, hb]; rfl, by decide, rfl, rfl⟩
  case done =>
    intro D xs W hxs hφ hB hD hK
    have hltD := (Array.getElem?_eq_some_iff.1 hK).1
    have g2 : ∀ b, (c3.fz b ∨ b = D) → c3.fz b ∨ (w3.heap.size ≤ b ∧ b < W.heap.size) := fun b hb => by
      rcases hb with hb | rfl
      · exact .inl hb
      · exact .inr ⟨hD, hltD⟩
    have E4 := Ext.grow H3 hB (fun b => c3.fz b ∨ b = D) (fun _ h => .inl h) g2
    have H4 := H3.grow hB (fun b => c3.fz b ∨ b = D) (fun _ h => .inl h) g2
    have S4 := S3.mono E4
    have hw : opWrite Try.prog (.store 28 (.tmp 2) (.const (.slice none 0 0))) (ev st) h3 = some (.skp, h3.put 1 (some (.cells false false [.nil]))) := by
      show storeB h3 (isz Try.prog 28) (st 2) .nil = _
      rw [s2, isz28]
      simp [storeB, b1, AV.cells, AV.isCell, setL]
    obtain ⟨nxt, w5, c5, hr5, E5, H5, hnx5⟩ := opWrite_ok (P := Try.prog) (o := ⟨none, .store 28 (.tmp 2) (.const (.slice none 0 0)), 0, "stop.go:203", #[], none⟩) H4 S4.ev hw
    have step : ∀ (b : Act) (K : Act → World → Prop), b.tmps = a3.tmps → K b w5 → Oper.wpIn (rF none) 5 Try.prog ⟨none, .store 28 (.tmp 2) (.const (.slice none 0 0)), 0, "stop.go:203", #[], none⟩ b W K (Exit.then (Code.wpIn (rF none) 5 Try.prog .ret Q) Q) := fun b K hb hK => by
      have he : b.eval = a3.eval := by
        funext x
        cases x <;> simp [Act.eval, hb]
      rw [← he] at hr5
      rcases hnx5 with ⟨x, rfl, h4⟩ | ⟨rfl, _⟩
      · exact next_valueIn (fun c h => by cases h) hr5 hK
      · exact next_skipIn (fun c h => by cases h) hr5 hK
    refine wpIn_seq (wpIn_region ?_)
    show wpOpsIn (rF none) 5 Try.prog _ _ [0] _ W
    have want : ∀ (o : Oper) (f : Nat → Option Bool), o.guard = none → Region.wanted o f = true := fun o f h => by simp [Region.wanted, h]
    simp only [wpOpsIn, List.getElem?_toArray, List.getElem?_cons_zero, List.getElem?_cons_succ, want, if_true]
    refine step _ _ rfl ?_
    refine wpIn_ret ?_
    rw [← hQ]
    have hK5 : w5.heap[D]? = some (.deferred (some [])) := (E5.keep D (.inr rfl)).trans hK
    have hff : firstOf snd bst val (List.range (2 ^ nx.length)) = [] := by
      rw [← hnn, ← hxs, firstOf]
      rw [List.find?_eq_none.2 fun x hx => by rw [hφ x hx]; simp]
    rw [hff] at hR
    have Eall := ((((E1.trans E2).trans E3).trans E4).trans E5)
    have hSd : ({ a3 with defers := { target := .collected D, args := #[] } :: a3.defers } : Act) = { a3 with defers := [{ target := .collected D, args := #[] }] } := by rw [S3.defers]
    rw [hSd]
    have S5 := S4.mono E5
    refine leave_ok (n := 25) (v := .nil) (r := .fresh 2 []) (ow := true) (kn := false) (ts := [28]) Eall H5 (a := a3) (st := st) S5 hK5 ?_ ?_ (fun b hp => by rw [hc0] at hp; exact hp.elim) ?_ ?_ ?_
    · rw [hbase0]; have := E1.trans (E2.trans E3); have h1 := this.below.size; omega
    · intro b hb e
      rw [hfz0] at hb
      have h1 := hf b hb
      have := (E1.trans (E2.trans E3)).below.size
      omega
    · have hp1 : (h3.put 1 (some (.cells false false [.nil]))).bl 1 = some (.cells false false [.nil]) := by rw [put_bl, if_pos rfl]
      exact res_cell s2 hp1
    · exact export_fresh (f := eP) (xs := []) false 28 37 und28 isz37 (.inl ⟨rfl, rfl⟩)
    · rw [hbase0, hfz0]; exact hR
  case stop =>
    intro D xs W hpre hψ hD hK
    obtain ⟨c', h', E', H', pre, y, rfl, hno, hyes, hn4, hb1, hb4⟩ := hψ
    have S' := S3.mono E'
    show Q .ret _ W
    rw [← hQ]
    have hSd : ({ a3 with defers := { target := .collected D, args := #[] } :: a3.defers } : Act) = { a3 with defers := [{ target := .collected D, args := #[] }] } := by rw [S3.defers]
    rw [hSd]
    have Eall := (((E1.trans E2).trans E3).trans E')
    have hff : firstOf snd bst val (List.range (2 ^ nx.length)) = val y := by
      obtain ⟨m, hm⟩ := hpre
      rw [← hnn, ← hm, firstOf]
      have : (pre ++ [y] ++ m).find? (fun x => snd x && bst x) = some y := by
        rw [List.append_assoc, List.find?_append, List.find?_eq_none.2 fun x hx => by rw [hno x hx]; simp]
        simp [hyes]
      rw [this]
    rw [hff] at hR
    refine leave_ok (n := 25) (v := .sl 4 0 (val y).length 2) (r := .fresh 2 ((val y).flatMap eP)) (ow := true) (kn := false) (ts := [28]) Eall H' (a := a3) (st := st) S' hK ?_ ?_ (fun b hp => by rw [hc0] at hp; exact hp.elim) ?_ ?_ ?_
    · rw [hbase0]; have := E1.trans (E2.trans E3); have h1 := this.below.size; omega
    · intro b hb e
      rw [hfz0] at hb
      have h1 := hf b hb
      have := (E1.trans (E2.trans E3)).below.size
      omega
    · exact res_cell s2 hb1
    · exact export_fresh (f := eP) false 28 37 und28 isz37 (.inr ⟨4, rfl, hn4, hb4⟩)
    · rw [hbase0, hfz0]; exact hR
end Go.Proofs.Ytgamcclfdkpcgaa

set_option linter.unusedVariables false
set_option linter.unusedSimpArgs false
set_option maxRecDepth 10000
namespace Go.Proofs.Ytgamcclfdkpcgaa
open Go Go.Am

variable {h h' : Hp} {K : AV → Hp → Prop}

theorem f49_own {nx : List (List Int)} {pay cost : List Int} (C : okC nx pay cost) : PureOk Try.prog 49 [chA nx pay cost] (.fresh 2 ((bestL nx pay cost).flatMap eP)) :=
  best_own nx pay cost C.n6 (ways_of C) (fun x hx => f55_Q C x (sndB_iff.1 hx))
theorem k49Q {nx : List (List Int)} {pay cost : List Int} (C : okC nx pay cost) : ConW Try.prog cfgQ 49 h (some ([chA nx pay cost], h')) K = K (.sl h'.nx 0 (bestL nx pay cost).length 2) (h'.alloc (.cells false true ((bestL nx pay cost).flatMap eP))) := by
  have hc : Con Try.prog cfgQ 49 [chA nx pay cost] (.fresh 2 ((bestL nx pay cost).flatMap eP)) := by
    rw [← thaw_LP]
    exact thawQ (by decide) (by rw [cfgT, if_neg (by decide)]; exact bestX C) (by rw [thaw_LP]; exact f49_own C)
  rw [ConW_any hc rfl, importR_fresh]
  have : ((bestL nx pay cost).flatMap eP).length / 2 = (bestL nx pay cost).length := by rw [flatMap_len (f := eP) (sz := 2)]; omega
  rw [this]
theorem row_at (b : List (Int × Int)) {i : Nat} (hi : i < b.length) : ((b.flatMap eP).drop (i * 2)).take 2 = [I (nth b i).1, I (nth b i).2] := by
  induction b generalizing i with
  | nil => cases hi
  | cons q b ih =>
    cases i with
    | zero => rfl
    | succ i =>
      have e : (i + 1) * 2 = i * 2 + 2 := by omega
      rw [List.flatMap_cons, e]
      show ((I q.1 :: I q.2 :: b.flatMap eP).drop (i * 2 + 2)).take 2 = _
      rw [List.drop_succ_cons, List.drop_succ_cons]
      exact ih (Nat.lt_of_succ_lt_succ hi)
theorem load_row (b : List (Int × Int)) {i : Nat} (hi : i < b.length) (d : TypeDesc) (hd : aggD d = true) : loadC (some d) (some 2) (some (b.flatMap eP, i * 2)) = some (.agg [I (nth b i).1, I (nth b i).2]) := by
  rw [loadC_agg d 2 hd _ _ (by rw [flatMap_len (f := eP) (sz := 2)]; omega), row_at b hi]
theorem f16_own {nx : List (List Int)} {pay cost : List Int} (c1 : chB nx pay cost = true) : PureOk Try.prog 16 [chA nx pay cost] (.tup [.fresh 2 ((bestL nx pay cost).flatMap eP), .fresh 1 ((stopsL nx.length pay (bestL nx pay cost) nx.length).flatMap (e1 I)), I 0]) := by
  have ml : maxLen = 9223372036854775807 := by decide
  have hk := chB_okN c1
  have hal : ∀ g : Hp, allocB g (some (chA nx pay cost)) = some (.ptr g.nx 0, g.alloc (.cells false false [LLI nx, LI pay, LI cost])) := fun g => allocB_agg _ rfl
  have hal2 : ∀ (g : Hp) (x y : Int), allocB g (some (.agg [I x, I y])) = some (.ptr g.nx 0, g.alloc (.cells false false [I x, I y])) := fun g x y => allocB_agg _ rfl
  have k48 := fun h h' K => ConW_num (h := h) (h' := h') (K := K) (toQ (by decide) (liftX (by decide) (f48_con nx pay cost hk))) rfl
  have hse : ∀ h : Hp, sealA h (chA nx pay cost) = some (chA nx pay cost, h) := fun h => sealA_agg _ (by simp only [AV.pureL, pure_L, Bool.and_true])
  have C := okC.of c1
  have hbl := bestL_len C
  have hlp := C.lp
  have hn6 := C.n6
  have kb := fun h h' K => k49Q (h := h) (h' := h') (K := K) C
  generalize bestL nx pay cost = b at *
  obtain ⟨n, hn⟩ : ∃ n, n = nx.length := ⟨_, rfl⟩
  rw [← hn] at hbl ⊢
  rw [hbl] at kb
  suffices hh : ∃ v h', Shr Try.prog cfgQ 16 [chA nx pay cost] Hp.empty v h' ∧ ∃ y, v = .tup [.sl 1 0 n 2, y, I 0] ∧ h'.bl 1 = some (.cells false true (b.flatMap eP)) ∧ OwnGe 2 (e1 I) 1 h' y (stopsL n pay b n) ∧ 1 < h'.nx by
    obtain ⟨v, h', hs, y, rfl, hb1, oy, hnx⟩ := hh
    refine pure_of_shr (ow := true) (kn := false) (ts := [28, 23, 29]) hextQ hs ?_
    have x1 : exportV Try.prog true false 28 h' [] (.sl 1 0 n 2) = some (.fresh 2 (b.flatMap eP), h', [1]) := by
      unfold exportV
      rw [if_pos rfl, if_neg (by simp)]
      simp only [hb1]
      rw [if_pos ⟨pureL_flatMap b, trivial, by decide, by rw [flatMap_len (f := eP) (sz := 2), hbl], by simp⟩]
    have x2 : ∃ u, exportV Try.prog true false 23 h' [1] y = some (.fresh 1 ((stopsL n pay b n).flatMap (e1 I)), h', u) := by
      unfold exportV
      rw [if_pos rfl, if_neg (by simp)]
      rcases oy with ⟨rfl, e⟩ | ⟨id, h2, rfl, hi, hc⟩
      · rw [e]
        exact ⟨[1], by simp only [und23, isz3, Option.bind_some]; rfl⟩
      · simp only [hc]
        rw [if_pos ⟨pureL_flatMap _, trivial, by decide, by rw [flatMap_len (f := e1 I) (sz := 1)], by simp; omega⟩]
        exact ⟨_, rfl⟩
    obtain ⟨u, x2⟩ := x2
    show (exportL Try.prog true false h' [] [28, 23, 29] [.sl 1 0 n 2, y, I 0]).map AV.tup = _
    simp only [exportL, x1, x2, Option.bind_some]
    rfl
  refine Shr_intro (h := Hp.empty) Try.func16 rfl okQ16 (Nat.le_of_ble_eq_true rfl) ?_
  simp only [Try.f16, Option.getD_some, initSt1]
  simp (disch := first | (simp only [go_sem, gb0, eq_self]; done) | omega | (simp only [gl1, gl2]; omega)) only [go_sem, ↓reduceIte, Nat.reduceEqDiff, Nat.reduceAdd, Nat.reduceMul, Nat.reduceSub, Int.reduceToNat, Nat.reduceBEq, hal, k48, hse, c1, kb]
  refine WP_cut (fun st h => st 5 = .sl 1 0 n 2 ∧ h.bl 1 = some (.cells false true (b.flatMap eP)) ∧ 1 < h.nx ∧ ∃ y, st 6 = y ∧ OwnGe 2 (e1 I) 1 h y (stopsL n pay b n)) ?_ ?_
  · refine WP_for 16 n (fun i st g => st 1 = .ptr 0 0 ∧ st 5 = .sl 1 0 n 2 ∧ st 14 = .sl 1 0 n 2 ∧ st 15 = I n ∧ 2 ≤ g.nx ∧ g.bl 0 = some (.cells false false [LLI nx, LI pay, LI cost]) ∧ g.bl 1 = some (.cells false true (b.flatMap eP)) ∧ ∃ y, st 6 = y ∧ OwnGe 2 (e1 I) 1 g y (stopsL n pay b i)) (by simp (disch := first | (simp only [go_sem, gb0, eq_self]; done) | omega | (simp only [gl1, gl2]; omega)) only [go_sem, ↓reduceIte, Nat.reduceEqDiff, Nat.reduceAdd, Nat.reduceMul, Nat.reduceSub, Int.reduceToNat, Nat.reduceBEq])
      ⟨by simp (disch := first | (simp only [go_sem, gb0, eq_self]; done) | omega | (simp only [gl1, gl2]; omega)) only [go_sem, ↓reduceIte, Nat.reduceEqDiff, Nat.reduceAdd, Nat.reduceMul, Nat.reduceSub, Int.reduceToNat, Nat.reduceBEq], by simp (disch := first | (simp only [go_sem, gb0, eq_self]; done) | omega | (simp only [gl1, gl2]; omega)) only [go_sem, ↓reduceIte, Nat.reduceEqDiff, Nat.reduceAdd, Nat.reduceMul, Nat.reduceSub, Int.reduceToNat, Nat.reduceBEq], by simp (disch := first | (simp only [go_sem, gb0, eq_self]; done) | omega | (simp only [gl1, gl2]; omega)) only [go_sem, ↓reduceIte, Nat.reduceEqDiff, Nat.reduceAdd, Nat.reduceMul, Nat.reduceSub, Int.reduceToNat, Nat.reduceBEq], by simp (disch := first | (simp only [go_sem, gb0, eq_self]; done) | omega | (simp only [gl1, gl2]; omega)) only [go_sem, ↓reduceIte, Nat.reduceEqDiff, Nat.reduceAdd, Nat.reduceMul, Nat.reduceSub, Int.reduceToNat, Nat.reduceBEq], by simp (disch := first | (simp only [go_sem, gb0, eq_self]; done) | omega | (simp only [gl1, gl2]; omega)) only [go_sem, ↓reduceIte, Nat.reduceEqDiff, Nat.reduceAdd, Nat.reduceMul, Nat.reduceSub, Int.reduceToNat, Nat.reduceBEq]; decide, by simp (disch := first | (simp only [go_sem, gb0, eq_self]; done) | omega | (simp only [gl1, gl2]; omega)) only [go_sem, ↓reduceIte, Nat.reduceEqDiff, Nat.reduceAdd, Nat.reduceMul, Nat.reduceSub, Int.reduceToNat, Nat.reduceBEq], by simp (disch := first | (simp only [go_sem, gb0, eq_self]; done) | omega | (simp only [gl1, gl2]; omega)) only [go_sem, ↓reduceIte, Nat.reduceEqDiff, Nat.reduceAdd, Nat.reduceMul, Nat.reduceSub, Int.reduceToNat, Nat.reduceBEq], .nil, by simp (disch := first | (simp only [go_sem, gb0, eq_self]; done) | omega | (simp only [gl1, gl2]; omega)) only [go_sem, ↓reduceIte, Nat.reduceEqDiff, Nat.reduceAdd, Nat.reduceMul, Nat.reduceSub, Int.reduceToNat, Nat.reduceBEq], .inl ⟨rfl, rfl⟩⟩ ?_
    rintro i st g hi s16 ⟨s1, s5, s14, s15, hgn, g0, g1, y, s6, oy⟩
    by_cases hin : i < n
    case neg =>
      have hie : i = n := by omega
      subst hie
      simp (disch := first | (simp only [go_sem, gb0, eq_self]; done) | omega | (simp only [gl1, gl2]; omega)) only [go_sem, ↓reduceIte, Nat.reduceEqDiff, Nat.reduceAdd, Nat.reduceMul, Nat.reduceSub, Int.reduceToNat, Nat.reduceBEq, s1, s5, s14, s15, s16, s6, hin]
      exact ⟨g1, by omega, _, rfl, oy⟩
    have hib : i < b.length := by omega
    have hib' : (i : Int) < n := by omega
    have hip : i < pay.length := by omega
    have hip' : (i : Int) < pay.length := by omega
    have hfs := filtL_succ (fun i => decide ((nth b i).1 = nth pay i) && decide ((nth b i).2 = 1)) i
    have hfl := filtL_len (fun i => decide ((nth b i).1 = nth pay i) && decide ((nth b i).2 = 1)) i
    obtain ⟨ys, hys⟩ : ∃ ys, ys = stopsL n pay b i := ⟨_, rfl⟩
    have hys2 : filtL (fun i => decide ((nth b i).1 = nth pay i) && decide ((nth b i).2 = 1)) i = ys := hys.symm
    rw [← hys] at oy
    rw [hys2] at hfs hfl
    have hfs3 : stopsL n pay b (i + 1) = if (decide ((nth b i).1 = nth pay i) && decide ((nth b i).2 = 1)) = true then ys ++ [(i : Int)] else ys := hfs
    have n0 : ¬ 0 = g.nx := by omega
    have l0 : 0 < g.nx + 1 := by omega
    have l1 : g.nx < g.nx + 1 := by omega
    have l2 : 1 < g.nx := by omega
    have hld : loadC (Try.prog.underlying 37) (some 2) (some (b.flatMap eP, i * 2)) = some (.agg [I (nth b i).1, I (nth b i).2]) := by rw [und37]; exact load_row b hib _ rfl
    rw [und37] at hld
    obtain ⟨g2, hg2⟩ : ∃ g2, g2 = (g.alloc (.cells false false [I 0, I 0])).put g.nx (some (.cells false false [I (nth b i).1, I (nth b i).2])) := ⟨_, rfl⟩
    have hg2n : g2.nx = g.nx + 1 := by rw [hg2]; rfl
    have hg20 : g2.bl 0 = some (.cells false false [LLI nx, LI pay, LI cost]) := by rw [hg2, put_bl, if_neg n0, alloc_bl, if_neg n0]; exact g0
    have hg21 : g2.bl 1 = some (.cells false true (b.flatMap eP)) := by rw [hg2, put_bl, if_neg (by omega), alloc_bl, if_neg (by omega)]; exact g1
    have hg2J : g2.bl g.nx = some (.cells false false [I (nth b i).1, I (nth b i).2]) := by rw [hg2, put_bl, if_pos rfl]
    have oy2 : OwnGe 2 (e1 I) 1 g2 y ys := oy.mono (by omega) fun id _ h3 => by
      rw [hg2, put_bl, if_neg (by omega), alloc_bl, if_neg (by omega)]
    cases hc : (decide ((nth b i).1 = nth pay i) && decide ((nth b i).2 = 1)) with
    | false =>
      rw [hc] at hfs3
      have hfs4 : stopsL n pay b (i + 1) = ys := hfs3
      simp (disch := first | (simp only [go_sem, gb0, eq_self]; done) | omega | (simp only [gl1, gl2]; omega)) only [go_sem, ↓reduceIte, Nat.reduceEqDiff, Nat.reduceAdd, Nat.reduceMul, Nat.reduceSub, Int.reduceToNat, Nat.reduceBEq, s1, s5, s14, s15, s16, s6, hin, hib, hib', hip, hip', g1, l2, hld, hal2, ← hg2, hg2n, hg20, hg2J, n0, l0, l1, hc, List.drop_succ_cons]
      rw [ForK_normal]
      exact ⟨hin, by simp (disch := first | (simp only [go_sem, gb0, eq_self]; done) | omega | (simp only [gl1, gl2]; omega)) only [go_sem, ↓reduceIte, Nat.reduceEqDiff, Nat.reduceAdd, Nat.reduceMul, Nat.reduceSub, Int.reduceToNat, Nat.reduceBEq, s16], by simp (disch := first | (simp only [go_sem, gb0, eq_self]; done) | omega | (simp only [gl1, gl2]; omega)) only [go_sem, ↓reduceIte, Nat.reduceEqDiff, Nat.reduceAdd, Nat.reduceMul, Nat.reduceSub, Int.reduceToNat, Nat.reduceBEq, s1], by simp (disch := first | (simp only [go_sem, gb0, eq_self]; done) | omega | (simp only [gl1, gl2]; omega)) only [go_sem, ↓reduceIte, Nat.reduceEqDiff, Nat.reduceAdd, Nat.reduceMul, Nat.reduceSub, Int.reduceToNat, Nat.reduceBEq, s5], by simp (disch := first | (simp only [go_sem, gb0, eq_self]; done) | omega | (simp only [gl1, gl2]; omega)) only [go_sem, ↓reduceIte, Nat.reduceEqDiff, Nat.reduceAdd, Nat.reduceMul, Nat.reduceSub, Int.reduceToNat, Nat.reduceBEq, s14], by simp (disch := first | (simp only [go_sem, gb0, eq_self]; done) | omega | (simp only [gl1, gl2]; omega)) only [go_sem, ↓reduceIte, Nat.reduceEqDiff, Nat.reduceAdd, Nat.reduceMul, Nat.reduceSub, Int.reduceToNat, Nat.reduceBEq, s15], by omega, hg20, hg21, y, by simp (disch := first | (simp only [go_sem, gb0, eq_self]; done) | omega | (simp only [gl1, gl2]; omega)) only [go_sem, ↓reduceIte, Nat.reduceEqDiff, Nat.reduceAdd, Nat.reduceMul, Nat.reduceSub, Int.reduceToNat, Nat.reduceBEq, s6], by rw [hfs4]; exact oy2⟩
    | true =>
      rw [hc] at hfs3
      have hfs4 : stopsL n pay b (i + 1) = ys ++ [(i : Int)] := hfs3
      have hbs := fun h => bsB_one (P := Try.prog) 3 (I i) (I i) (I 0) h isz3 izero3 rfl rfl rfl rfl rfl rfl rfl
      have happ := app_one (P := Try.prog) oy2.own 3 8 (I 0) (i : Int) isz3 ibytes3 izero3 rfl (by omega) (by omega)
      have ln : 2 ≤ (appH g2 y ((ys ++ [(i : Int)]).flatMap (e1 I))).nx := by rw [appH_nx]; omega
      have lo : OwnGe 2 (e1 I) 1 (appH g2 y ((ys ++ [(i : Int)]).flatMap (e1 I))) (appV g2 (ys ++ [(i : Int)]).length 1) (stopsL n pay b (i + 1)) := by
        rw [hfs4]
        exact OwnGe.app _ (by omega) _
      have ll0 : (appH g2 y ((ys ++ [(i : Int)]).flatMap (e1 I))).bl 0 = some (.cells false false [LLI nx, LI pay, LI cost]) := by rw [oy2.low (by omega) (by omega)]; exact hg20
      have ll1 : (appH g2 y ((ys ++ [(i : Int)]).flatMap (e1 I))).bl 1 = some (.cells false true (b.flatMap eP)) := by rw [oy2.low (by omega) (by omega)]; exact hg21
      generalize appH g2 y ((ys ++ [(i : Int)]).flatMap (e1 I)) = G at *
      generalize appV g2 (ys ++ [(i : Int)]).length 1 = u at *
      simp (disch := first | (simp only [go_sem, gb0, eq_self]; done) | omega | (simp only [gl1, gl2]; omega)) only [go_sem, ↓reduceIte, Nat.reduceEqDiff, Nat.reduceAdd, Nat.reduceMul, Nat.reduceSub, Int.reduceToNat, Nat.reduceBEq, s1, s5, s14, s15, s16, s6, hin, hib, hib', hip, hip', g1, l2, hld, hal2, ← hg2, hg2n, hg20, hg2J, n0, l0, l1, hc, hbs, happ, List.drop_succ_cons]
      rw [ForK_normal]
      exact ⟨hin, by simp (disch := first | (simp only [go_sem, gb0, eq_self]; done) | omega | (simp only [gl1, gl2]; omega)) only [go_sem, ↓reduceIte, Nat.reduceEqDiff, Nat.reduceAdd, Nat.reduceMul, Nat.reduceSub, Int.reduceToNat, Nat.reduceBEq, s16], by simp (disch := first | (simp only [go_sem, gb0, eq_self]; done) | omega | (simp only [gl1, gl2]; omega)) only [go_sem, ↓reduceIte, Nat.reduceEqDiff, Nat.reduceAdd, Nat.reduceMul, Nat.reduceSub, Int.reduceToNat, Nat.reduceBEq, s1], by simp (disch := first | (simp only [go_sem, gb0, eq_self]; done) | omega | (simp only [gl1, gl2]; omega)) only [go_sem, ↓reduceIte, Nat.reduceEqDiff, Nat.reduceAdd, Nat.reduceMul, Nat.reduceSub, Int.reduceToNat, Nat.reduceBEq, s5], by simp (disch := first | (simp only [go_sem, gb0, eq_self]; done) | omega | (simp only [gl1, gl2]; omega)) only [go_sem, ↓reduceIte, Nat.reduceEqDiff, Nat.reduceAdd, Nat.reduceMul, Nat.reduceSub, Int.reduceToNat, Nat.reduceBEq, s14], by simp (disch := first | (simp only [go_sem, gb0, eq_self]; done) | omega | (simp only [gl1, gl2]; omega)) only [go_sem, ↓reduceIte, Nat.reduceEqDiff, Nat.reduceAdd, Nat.reduceMul, Nat.reduceSub, Int.reduceToNat, Nat.reduceBEq, s15], ln, ll0, ll1, _, by simp (disch := first | (simp only [go_sem, gb0, eq_self]; done) | omega | (simp only [gl1, gl2]; omega)) only [go_sem, ↓reduceIte, Nat.reduceEqDiff, Nat.reduceAdd, Nat.reduceMul, Nat.reduceSub, Int.reduceToNat, Nat.reduceBEq], lo⟩
  · rintro st h ⟨s5, b1, hnx, y, s6, oy⟩
    simp (disch := first | (simp only [go_sem, gb0, eq_self]; done) | omega | (simp only [gl1, gl2]; omega)) only [go_sem, ↓reduceIte, Nat.reduceEqDiff, Nat.reduceAdd, Nat.reduceMul, Nat.reduceSub, Int.reduceToNat, Nat.reduceBEq, s5, s6]
    exact ⟨y, rfl, b1, oy, hnx⟩
theorem f29_own {nx : List (List Int)} {pay cost l : List Int} (hc : chB nx pay cost = true) (hl : l.length ≤ maxLen) (hok : ruleOK nx.length l = true) (hsd : sndB nx.length (wF nx) (xOf nx.length l) = true) :
    PureOk Try.prog 29 [chA nx pay cost, LI l] (.tup [.own (.fresh 2 ((valL nx pay cost (xOf nx.length l)).flatMap eP)), I 0]) := by
  have ml : maxLen = 9223372036854775807 := by decide
  have hk := chB_okN hc
  have hal : ∀ g : Hp, allocB g (some (chA nx pay cost)) = some (.ptr g.nx 0, g.alloc (.cells false false [LLI nx, LI pay, LI cost])) := fun g => allocB_agg _ rfl
  have k48 := fun h h' K => ConW_num (h := h) (h' := h') (K := K) (toQ (by decide) (liftX (by decide) (f48_con nx pay cost hk))) rfl
  have k50 := fun (x lo hi : Int) h h' K => ConW_num (h := h) (h' := h') (K := K) (toQ (by decide) (liftX (by decide) (f50_con x lo hi))) rfl
  have hse : ∀ h : Hp, sealA h (chA nx pay cost) = some (chA nx pay cost, h) := fun h => sealA_agg _ (by simp only [AV.pureL, pure_L, Bool.and_true])
  have C := okC.of hc
  obtain ⟨n, hn⟩ : ∃ n, n = nx.length := ⟨_, rfl⟩
  have hn1 := C.n1
  have hn6 := C.n6
  have hz82 : [AV.bool false, .bool false, .bool false, .bool false, .bool false, .bool false] = bolA fun _ => false := rfl
  have hpos : ∀ i, i < l.length → posB n l i = true := fun i hi => by
    have h := hok
    rw [← hn, ruleOK] at h
    exact List.all_eq_true.1 h i (List.mem_range.2 hi)
  have hvl := valL_len nx pay cost (xOf nx.length l)
  suffices hh : ∃ v h', Shr Try.prog cfgQ 29 [chA nx pay cost, LI l] Hp.empty v h' ∧ ∃ J, v = .tup [.sl J 0 (valL nx pay cost (xOf nx.length l)).length 2, I 0] ∧ J < h'.nx ∧ h'.bl J = some (.cells false true ((valL nx pay cost (xOf nx.length l)).flatMap eP)) by
    obtain ⟨v, h', hs, J, rfl, hJ, hb⟩ := hh
    refine pure_of_shr (ow := true) (kn := true) (ts := [28, 29]) hextQ hs ?_
    have e1' := freshN_own (f := eP) (sz := 2) (k := 3) (u := []) hb rfl (by simp)
    have x1 : exportV Try.prog true true 28 h' [] (.sl J 0 (valL nx pay cost (xOf nx.length l)).length 2) = some (.own (.fresh 2 ((valL nx pay cost (xOf nx.length l)).flatMap eP)), h', [J]) := by
      unfold exportV
      rw [if_pos rfl, if_pos rfl, if_neg (by simp [AV.isPure])]
      simp only [freshV, e1', Option.map_some]
    show (exportL Try.prog true true h' [] [28, 29] [.sl J 0 (valL nx pay cost (xOf nx.length l)).length 2, I 0]).map AV.tup = _
    simp only [exportL, x1, Option.bind_some]
    rfl
  refine Shr_intro (h := Hp.empty) Try.func29 rfl okQ29 (Nat.le_of_ble_eq_true rfl) ?_
  simp only [Try.f29, Option.getD_some, initSt2]
  simp (disch := first | (simp only [go_sem, gb0, eq_self]; done) | omega | (simp only [gl1, gl2]; omega)) only [go_sem, ↓reduceIte, Nat.reduceEqDiff, Nat.reduceAdd, Nat.reduceMul, Nat.reduceSub, Int.reduceToNat, Nat.reduceBEq, hal, k48, hse, hc]
  refine WP_cut (fun st h => st 2 = .ptr 0 0 ∧ st 6 = .ptr 1 0 ∧ 2 ≤ h.nx ∧ h.bl 0 = some (.cells false false [LLI nx, LI pay, LI cost]) ∧ h.bl 1 = some (.cells false false (bolA fun k => hasB l k))) ?_ ?_
  · refine WP_for 14 l.length (fun i st h => st 1 = LI l ∧ st 2 = .ptr 0 0 ∧ st 6 = .ptr 1 0 ∧ st 12 = LI l ∧ st 13 = I l.length ∧ 2 ≤ h.nx ∧ h.bl 0 = some (.cells false false [LLI nx, LI pay, LI cost]) ∧ h.bl 1 = some (.cells false false (bolA fun k => hasB (l.take i) k))) (by simp (disch := first | (simp only [go_sem, gb0, eq_self]; done) | omega | (simp only [gl1, gl2]; omega)) only [go_sem, ↓reduceIte, Nat.reduceEqDiff, Nat.reduceAdd, Nat.reduceMul, Nat.reduceSub, Int.reduceToNat, Nat.reduceBEq])
      ⟨by simp (disch := first | (simp only [go_sem, gb0, eq_self]; done) | omega | (simp only [gl1, gl2]; omega)) only [go_sem, ↓reduceIte, Nat.reduceEqDiff, Nat.reduceAdd, Nat.reduceMul, Nat.reduceSub, Int.reduceToNat, Nat.reduceBEq], by simp (disch := first | (simp only [go_sem, gb0, eq_self]; done) | omega | (simp only [gl1, gl2]; omega)) only [go_sem, ↓reduceIte, Nat.reduceEqDiff, Nat.reduceAdd, Nat.reduceMul, Nat.reduceSub, Int.reduceToNat, Nat.reduceBEq], by simp (disch := first | (simp only [go_sem, gb0, eq_self]; done) | omega | (simp only [gl1, gl2]; omega)) only [go_sem, ↓reduceIte, Nat.reduceEqDiff, Nat.reduceAdd, Nat.reduceMul, Nat.reduceSub, Int.reduceToNat, Nat.reduceBEq], by simp (disch := first | (simp only [go_sem, gb0, eq_self]; done) | omega | (simp only [gl1, gl2]; omega)) only [go_sem, ↓reduceIte, Nat.reduceEqDiff, Nat.reduceAdd, Nat.reduceMul, Nat.reduceSub, Int.reduceToNat, Nat.reduceBEq], by simp (disch := first | (simp only [go_sem, gb0, eq_self]; done) | omega | (simp only [gl1, gl2]; omega)) only [go_sem, ↓reduceIte, Nat.reduceEqDiff, Nat.reduceAdd, Nat.reduceMul, Nat.reduceSub, Int.reduceToNat, Nat.reduceBEq], by simp (disch := first | (simp only [go_sem, gb0, eq_self]; done) | omega | (simp only [gl1, gl2]; omega)) only [go_sem, ↓reduceIte, Nat.reduceEqDiff, Nat.reduceAdd, Nat.reduceMul, Nat.reduceSub, Int.reduceToNat, Nat.reduceBEq]; decide, by simp (disch := first | (simp only [go_sem, gb0, eq_self]; done) | omega | (simp only [gl1, gl2]; omega)) only [go_sem, ↓reduceIte, Nat.reduceEqDiff, Nat.reduceAdd, Nat.reduceMul, Nat.reduceSub, Int.reduceToNat, Nat.reduceBEq], by simp (disch := first | (simp only [go_sem, gb0, eq_self]; done) | omega | (simp only [gl1, gl2]; omega)) only [go_sem, ↓reduceIte, Nat.reduceEqDiff, Nat.reduceAdd, Nat.reduceMul, Nat.reduceSub, Int.reduceToNat, Nat.reduceBEq, hz82]; rfl⟩ ?_
    rintro i st h hi s14 ⟨s1, s2, s6, s12, s13, hnx, b0, b1⟩
    by_cases hlt : i < l.length
    case neg =>
      have hbb : (bolA fun k => hasB (l.take i) k) = bolA fun k => hasB l k := by congr 1; funext k; rw [hasB_all l k (by omega)]
      rw [hbb] at b1
      simp (disch := first | (simp only [go_sem, gb0, eq_self]; done) | omega | (simp only [gl1, gl2]; omega)) only [go_sem, ↓reduceIte, Nat.reduceEqDiff, Nat.reduceAdd, Nat.reduceMul, Nat.reduceSub, Int.reduceToNat, Nat.reduceBEq, s1, s2, s6, s12, s13, s14, hlt]
      exact ⟨hnx, b0, b1⟩
    have hlt' : (i : Int) < l.length := by omega
    have hp := hpos i hlt
    simp only [posB, Bool.and_eq_true, decide_eq_true_eq, Bool.or_eq_true] at hp
    have c1 : inB (nth l i) 0 ((nx.length : Int) - 1) = true := by
      rw [inB, decide_eq_true (by omega), decide_eq_true (by omega)]; rfl
    obtain ⟨v, hv⟩ : ∃ v : Nat, (v : Int) = nth l i := ⟨(nth l i).toNat, by omega⟩
    have hv6 : v < 6 := by omega
    have hv6' : (v : Int) < 6 := by omega
    have hset : bolA (setB (fun k => hasB (l.take i) k) v true) = bolA fun k => hasB (l.take (i + 1)) k := by
      congr 1; funext k
      rw [hasB_take l k i hlt, setB]
      by_cases hkv : k = v
      · subst hkv; rw [if_pos rfl, ← hv]; simp
      · rw [if_neg hkv, ← hv, decide_eq_false (by omega), Bool.or_false]
    rw [← hv] at c1
    by_cases c3 : 0 < i
    · have c3' : (0 : Int) < i := by omega
      have c4 : (0 : Int) ≤ (i : Int) - 1 := by omega
      have c5 : (i : Int) - 1 < l.length := by omega
      have c6 : ((i : Int) - 1).toNat = i - 1 := by omega
      have c7 : i - 1 < l.length := by omega
      have c8 : ¬ (v : Int) ≤ nth l (i - 1) := by omega
      simp (disch := first | (simp only [go_sem, gb0, eq_self]; done) | omega | (simp only [gl1, gl2]; omega)) only [go_sem, ↓reduceIte, Nat.reduceEqDiff, Nat.reduceAdd, Nat.reduceMul, Nat.reduceSub, Int.reduceToNat, Nat.reduceBEq, s1, s2, s6, s12, s13, s14, hlt, ← hv, b0, b1, k50, c1, c3', c4, c5, c6, c7, c8, hv6, hv6', hset]
      rw [ForK_normal]
      exact ⟨hlt, by simp (disch := first | (simp only [go_sem, gb0, eq_self]; done) | omega | (simp only [gl1, gl2]; omega)) only [go_sem, ↓reduceIte, Nat.reduceEqDiff, Nat.reduceAdd, Nat.reduceMul, Nat.reduceSub, Int.reduceToNat, Nat.reduceBEq, s14], by simp (disch := first | (simp only [go_sem, gb0, eq_self]; done) | omega | (simp only [gl1, gl2]; omega)) only [go_sem, ↓reduceIte, Nat.reduceEqDiff, Nat.reduceAdd, Nat.reduceMul, Nat.reduceSub, Int.reduceToNat, Nat.reduceBEq, s1], by simp (disch := first | (simp only [go_sem, gb0, eq_self]; done) | omega | (simp only [gl1, gl2]; omega)) only [go_sem, ↓reduceIte, Nat.reduceEqDiff, Nat.reduceAdd, Nat.reduceMul, Nat.reduceSub, Int.reduceToNat, Nat.reduceBEq, s2], by simp (disch := first | (simp only [go_sem, gb0, eq_self]; done) | omega | (simp only [gl1, gl2]; omega)) only [go_sem, ↓reduceIte, Nat.reduceEqDiff, Nat.reduceAdd, Nat.reduceMul, Nat.reduceSub, Int.reduceToNat, Nat.reduceBEq, s6], by simp (disch := first | (simp only [go_sem, gb0, eq_self]; done) | omega | (simp only [gl1, gl2]; omega)) only [go_sem, ↓reduceIte, Nat.reduceEqDiff, Nat.reduceAdd, Nat.reduceMul, Nat.reduceSub, Int.reduceToNat, Nat.reduceBEq, s12], by simp (disch := first | (simp only [go_sem, gb0, eq_self]; done) | omega | (simp only [gl1, gl2]; omega)) only [go_sem, ↓reduceIte, Nat.reduceEqDiff, Nat.reduceAdd, Nat.reduceMul, Nat.reduceSub, Int.reduceToNat, Nat.reduceBEq, s13], hnx, by simp (disch := first | (simp only [go_sem, gb0, eq_self]; done) | omega | (simp only [gl1, gl2]; omega)) only [go_sem, ↓reduceIte, Nat.reduceEqDiff, Nat.reduceAdd, Nat.reduceMul, Nat.reduceSub, Int.reduceToNat, Nat.reduceBEq, b0], by simp (disch := first | (simp only [go_sem, gb0, eq_self]; done) | omega | (simp only [gl1, gl2]; omega)) only [go_sem, ↓reduceIte, Nat.reduceEqDiff, Nat.reduceAdd, Nat.reduceMul, Nat.reduceSub, Int.reduceToNat, Nat.reduceBEq]⟩
    · obtain rfl : i = 0 := by omega
      have c3' : ¬ ((0 : Int) < ((0 : Nat) : Int)) := by decide
      simp (disch := first | (simp only [go_sem, gb0, eq_self]; done) | omega | (simp only [gl1, gl2]; omega)) only [go_sem, ↓reduceIte, Nat.reduceEqDiff, Nat.reduceAdd, Nat.reduceMul, Nat.reduceSub, Int.reduceToNat, Nat.reduceBEq, s1, s2, s6, s12, s13, s14, hlt, ← hv, b0, b1, k50, c1, c3', hv6, hv6', hset]
      rw [ForK_normal]
      exact ⟨hlt, by simp (disch := first | (simp only [go_sem, gb0, eq_self]; done) | omega | (simp only [gl1, gl2]; omega)) only [go_sem, ↓reduceIte, Nat.reduceEqDiff, Nat.reduceAdd, Nat.reduceMul, Nat.reduceSub, Int.reduceToNat, Nat.reduceBEq, s14], by simp (disch := first | (simp only [go_sem, gb0, eq_self]; done) | omega | (simp only [gl1, gl2]; omega)) only [go_sem, ↓reduceIte, Nat.reduceEqDiff, Nat.reduceAdd, Nat.reduceMul, Nat.reduceSub, Int.reduceToNat, Nat.reduceBEq, s1], by simp (disch := first | (simp only [go_sem, gb0, eq_self]; done) | omega | (simp only [gl1, gl2]; omega)) only [go_sem, ↓reduceIte, Nat.reduceEqDiff, Nat.reduceAdd, Nat.reduceMul, Nat.reduceSub, Int.reduceToNat, Nat.reduceBEq, s2], by simp (disch := first | (simp only [go_sem, gb0, eq_self]; done) | omega | (simp only [gl1, gl2]; omega)) only [go_sem, ↓reduceIte, Nat.reduceEqDiff, Nat.reduceAdd, Nat.reduceMul, Nat.reduceSub, Int.reduceToNat, Nat.reduceBEq, s6], by simp (disch := first | (simp only [go_sem, gb0, eq_self]; done) | omega | (simp only [gl1, gl2]; omega)) only [go_sem, ↓reduceIte, Nat.reduceEqDiff, Nat.reduceAdd, Nat.reduceMul, Nat.reduceSub, Int.reduceToNat, Nat.reduceBEq, s12], by simp (disch := first | (simp only [go_sem, gb0, eq_self]; done) | omega | (simp only [gl1, gl2]; omega)) only [go_sem, ↓reduceIte, Nat.reduceEqDiff, Nat.reduceAdd, Nat.reduceMul, Nat.reduceSub, Int.reduceToNat, Nat.reduceBEq, s13], hnx, by simp (disch := first | (simp only [go_sem, gb0, eq_self]; done) | omega | (simp only [gl1, gl2]; omega)) only [go_sem, ↓reduceIte, Nat.reduceEqDiff, Nat.reduceAdd, Nat.reduceMul, Nat.reduceSub, Int.reduceToNat, Nat.reduceBEq, b0], by simp (disch := first | (simp only [go_sem, gb0, eq_self]; done) | omega | (simp only [gl1, gl2]; omega)) only [go_sem, ↓reduceIte, Nat.reduceEqDiff, Nat.reduceAdd, Nat.reduceMul, Nat.reduceSub, Int.reduceToNat, Nat.reduceBEq]⟩
  · rintro st h ⟨s2, s6, hnx, b0, b1⟩
    have hu : uR nx.length (xOf nx.length l) = .agg (bolA fun k => hasB l k) := by
      rw [uR, uR_bol]
      congr 1
      refine bolA_congr fun k hk => ?_
      by_cases hkn : k < nx.length
      · rw [if_pos hkn, xOf_bit l hkn]
      · rw [if_neg hkn, has_out hok (by omega)]
    have k54 := fun h h' K => ConW_num (h := h) (h' := h') (K := K) (toQc (by decide) (f54_con C (xOf nx.length l))) rfl
    have c56 := toQc (by decide) (f56_con C (xOf nx.length l))
    rw [hu] at k54 c56
    have hld : loadC (some (.array 6 4)) (some 6) (some (bolA fun k => hasB l k, 0)) = some (.agg (bolA fun k => hasB l k)) := by
      have := loadC_agg (.array 6 4) 6 rfl (bolA fun k => hasB l k) 0 (by rw [bolA_len]; omega)
      rw [this, List.drop_zero, List.take_of_length_le (by rw [bolA_len]; omega)]
    have hse2 : ∀ h : Hp, sealA h (.agg (bolA fun k => hasB l k)) = some (.agg (bolA fun k => hasB l k), h) := fun h => sealA_agg _ (pureL_all fun y hy => by obtain ⟨k, _, rfl⟩ := List.mem_map.1 hy; rfl)
    have z0 : 0 < h.nx := by omega
    have z1 : 1 < h.nx := by omega
    have k56 := fun h h' K => ConW_num (h := h) (h' := h') (K := K) c56 (by rw [eqR]; exact List.all_eq_true.2 fun y hy => by obtain ⟨k, _, rfl⟩ := List.mem_map.1 hy; rfl)
    have k55 := fun h h' K => k55Q (h := h) (h' := h') (K := K) C (xOf nx.length l) (sndB_iff.1 hsd)
    have hse3 : ∀ h : Hp, sealA h (eqR nx pay cost (xOf nx.length l)) = some (eqR nx pay cost (xOf nx.length l), h) := fun h => sealA_agg _ (matA_pure _)
    simp (disch := first | (simp only [go_sem, gb0, eq_self]; done) | omega | (simp only [gl1, gl2]; omega)) only [go_sem, ↓reduceIte, Nat.reduceEqDiff, Nat.reduceAdd, Nat.reduceMul, Nat.reduceSub, Int.reduceToNat, Nat.reduceBEq, s2, s6, b0, b1, z0, z1, hld, hse, hse2, k54, hsd, k56, hse3, k55]
    exact ⟨h.nx, rfl, by omega, by rw [if_pos rfl]⟩
end Go.Proofs.Ytgamcclfdkpcgaa

set_option linter.unusedVariables false
set_option linter.unusedSimpArgs false
set_option maxRecDepth 10000
namespace Go.Proofs.Ytgamcclfdkpcgaa
open Go Go.Am

variable {h h' : Hp} {K : AV → Hp → Prop}

theorem put_same4 {g : Hp} {a : Nat} {b : Blk} (hb : g.bl a = some b) : g.put a (some b) = g := by
  unfold Hp.put
  congr 1
  funext i
  split
  · rename_i e; rw [e]; exact hb.symm
  · rfl
theorem seal_frz4 {g : Hp} {a b c : Nat} {R : List (List Int)} {P C : List Int} (h1 : g.bl a = some (.cells true true (R.flatMap (e1 LI)))) (h2 : g.bl b = some (.cells true true (P.flatMap (e1 I)))) (h3 : g.bl c = some (.cells true true (C.flatMap (e1 I))))
    (ab : a ≠ b) (ac : a ≠ c) (bc : b ≠ c) : sealA g (.agg [.sl a 0 R.length 1, .sl b 0 P.length 1, .sl c 0 C.length 1]) = some (chA R P C, g) := by
  rw [seal_own3 h1 h2 h3 ab ac bc, put_same4 h1, put_same4 h2, put_same4 h3]
theorem seal_frz1 {g : Hp} {a n : Nat} {P : List Int} (h1 : g.bl a = some (.cells true true (P.flatMap (e1 I)))) (hn : P.length = n) : sealA g (.sl a 0 n 1) = some (LI P, g) := by
  rw [sealA_sl, h1, sealSl_own (f := e1 I) (sz := 1) a n true true P hn.symm, put_same4 h1]
theorem seal_ints {g : Hp} {a n : Nat} {P : List Int} (h1 : g.bl a = some (.cells false true (P.flatMap (e1 I)))) (hn : P.length = n) : sealA g (.sl a 0 n 1) = some (LI P, g.put a (some (.cells true true (P.flatMap (e1 I))))) := by
  rw [sealA_sl, h1, sealSl_own (f := e1 I) (sz := 1) a n false true P hn.symm]
theorem seal_frs {g : Hp} {a n : Nat} {P : List (Int × Int)} (h1 : g.bl a = some (.cells false true (P.flatMap eP))) (hn : P.length = n) : sealA g (.sl a 0 n 2) = some (LP P, g.put a (some (.cells true true (P.flatMap eP)))) := by
  rw [sealA_sl, h1, sealSl_own (f := eP) (sz := 2) a n false true P hn.symm]
theorem store_fr (g : Hp) (id i n : Nat) (row : Bool) (flat : List AV) (hl : flat.length = n * 2) (hi : i < n) : storeC g id (i * 2) 2 (some (.cells false row flat)) [I 0, I 0] = some (.skp, g.put id (some (.cells false row (setL flat (i * 2) [I 0, I 0])))) :=
  storeC_many id (i * 2) 2 row flat [I 0, I 0] rfl rfl (by omega)
theorem setL_two (flat : List AV) (i n : Nat) (hl : flat.length = n * 2) (hi : i < n) : (setL flat (i * 2) [I 0, I 0]).length = n * 2 := by
  rw [(setL_get [I 0, I 0] flat (i * 2) (by simp only [List.length_cons, List.length_nil]; omega)).1, hl]
theorem free_rule (l : List (Int × Int)) : (AV.tup [.own (.fresh 2 (l.flatMap eP)), I 0]).isFree = true := by
  have h : (l.flatMap eP).all (AV.loosN 3) = true := by
    refine List.all_eq_true.2 fun y hy => ?_
    obtain ⟨q, _, hq⟩ := List.mem_flatMap.1 hy
    simp only [eP, List.mem_cons, List.not_mem_nil, or_false] at hq
    rcases hq with rfl | rfl <;> rfl
  show ((true || (false || false)) && (AV.loosN 4 (.fresh 2 (l.flatMap eP)) && ((I 0).loose && true))) = true
  have h2 : AV.loosN 4 (.fresh 2 (l.flatMap eP)) = true := h
  rw [h2]
  try rfl
theorem import_best (g : Hp) (b : List (Int × Int)) (s : List Int) {n m : Nat} (hb : b.length = n) (hs : s.length = m) : importR g (.tup [.fresh 2 (b.flatMap eP), .fresh 1 (s.flatMap (e1 I)), I 0]) = (.tup [.sl g.nx 0 n 2, .sl (g.nx + 1) 0 m 1, I 0], (g.alloc (.cells false true (b.flatMap eP))).alloc (.cells false true (s.flatMap (e1 I)))) := by
  have e1' : (b.flatMap eP).length / 2 = n := by rw [flatMap_len (f := eP) (sz := 2)]; omega
  have e2' : (s.flatMap (e1 I)).length / 1 = m := by rw [flatMap_len (f := e1 I) (sz := 1)]; omega
  show (AV.tup [.sl g.nx 0 ((b.flatMap eP).length / 2) 2, .sl (g.nx + 1) 0 ((s.flatMap (e1 I)).length / 1) 1, I 0], _) = _
  rw [e1', e2']
  try rfl
theorem import_rule (g : Hp) (b : List (Int × Int)) {n : Nat} (hb : b.length = n) : importR g (.tup [.own (.fresh 2 (b.flatMap eP)), I 0]) = (.tup [.sl g.nx 0 n 2, I 0], g.alloc (.cells false true (b.flatMap eP))) := by
  have h := importN_own (h := g) (f := eP) (sz := 2) (k := 3) b
  show (AV.tup [(importN 4 g (.fresh 2 (b.flatMap eP))).1, I 0], (importN 4 g (.fresh 2 (b.flatMap eP))).2) = _
  rw [h, hb]

/-- What stays as it is from region 8 on. -/
def Mem10 (n : Nat) (nx : List (List Int)) (pay cost : List Int) (h : Hp) : Prop :=
  h.nx = 12 ∧ (h.bl 1 = some (.cells true true (nx.flatMap (e1 LI))) ∧ h.bl 2 = some (.cells true true (pay.flatMap (e1 I))) ∧ h.bl 3 = some (.cells true true (cost.flatMap (e1 I))) ∧ h.bl 4 = some (.cells false false [.sl 1 0 n 1, .sl 2 0 n 1, .sl 3 0 n 1])) ∧
  (h.bl 5 = some (.cells true true (nx.flatMap (e1 LI))) ∧ h.bl 6 = some (.cells true true (pay.flatMap (e1 I))) ∧ h.bl 7 = some (.cells true true (cost.flatMap (e1 I))) ∧ h.bl 8 = some (.cells false false [.sl 5 0 n 1, .sl 6 0 n 1, .sl 7 0 n 1]))
set_option maxHeartbeats 2000000 in
theorem f10_con (nx0 : List (List Int)) (pay0 cost0 : List Int) (hk : okN nx0 pay0 cost0) : Con Try.prog cfgQ 10 [chA nx0 pay0 cost0] (.bool true) := by
  have ml : maxLen = 9223372036854775807 := by decide
  have hal : ∀ (g : Hp) nx pay cost, allocB g (some (chA nx pay cost)) = some (.ptr g.nx 0, g.alloc (.cells false false [LLI nx, LI pay, LI cost])) := fun g _ _ _ => allocB_agg _ rfl
  have hse : ∀ (h : Hp) nx pay cost, sealA h (chA nx pay cost) = some (chA nx pay cost, h) := fun h _ _ _ => sealA_agg _ (by simp only [AV.pureL, pure_L, Bool.and_true])
  have hal2 : ∀ g : Hp, allocB g (some (.agg [.nil, .nil, .nil])) = some (.ptr g.nx 0, g.alloc (.cells false false [.nil, .nil, .nil])) := fun g => allocB_agg _ rfl
  obtain ⟨nx, pay, cost, ⟨c1, h5⟩, c15⟩ := f15_O nx0 pay0 cost0 hk 5 (by decide)
  replace c15 : Con Try.prog cfgO 15 [chA nx0 pay0 cost0, I 5] (ownCh nx pay cost) := c15
  have C := okC.of c1
  have hn1 := C.n1
  have hlp := C.lp
  have hlc := C.lc
  have k15 := fun h h' K => ConW_any (h := h) (h' := h') (K := K) (oToQ (by decide) c15) rfl (ownCh_free _ _ (by omega))
  have hi15 := fun h => importR_ownCh (h := h) nx pay cost
  have hst : ∀ (g : Hp) (id a b c x y z : Nat), storeC g id 0 3 (some (.cells false false [.nil, .nil, .nil])) [.sl a 0 x 1, .sl b 0 y 1, .sl c 0 z 1] = some (.skp, g.put id (some (.cells false false [.sl a 0 x 1, .sl b 0 y 1, .sl c 0 z 1]))) := fun g id a b c x y z => by simp [storeC, setL, AV.isCell]
  have k17 := fun h h' K => ConW_any (h := h) (h' := h') (K := K) (oToQ (by decide) (f17_O c1)) rfl (ownCh_free _ _ (by omega))
  obtain ⟨n, hn⟩ : ∃ n, n = nx.length := ⟨_, rfl⟩
  rw [hlp, hlc, ← hn] at hi15
  have r1 : bstR nx pay cost (bestL nx pay cost) = .tup [LP (bestL nx pay cost), LI (stopsL nx.length pay (bestL nx pay cost) nx.length), I 0] := by rw [bstR, c1]; rfl
  have c16 : Con Try.prog cfgQ 16 [chA nx pay cost] (thaw (.tup [LP (bestL nx pay cost), LI (stopsL nx.length pay (bestL nx pay cost) nx.length), I 0])) :=
    thawQ (by decide) (by rw [cfgT, if_neg (by decide), ← r1]; exact f16_con nx pay cost (chB_okN c1)) (by rw [thaw_three]; exact f16_own c1)
  obtain ⟨so, ss, sv⟩ := stops_rule C rfl
  have r29 : rulR nx pay cost (stopsL nx.length pay (bestL nx pay cost) nx.length) = .tup [LP (bestL nx pay cost), I 0] := by rw [rulR, c1, so, ss, sv]; rfl
  have hsl := stops_len nx.length pay (bestL nx pay cost)
  have c29 : Con Try.prog cfgQ 29 [chA nx pay cost, LI (stopsL nx.length pay (bestL nx pay cost) nx.length)] (thaw (.tup [LP (bestL nx pay cost), I 0])) :=
    thawQ (by decide) (by rw [cfgT, if_neg (by decide), ← r29]; exact liftX (by decide) (f29_con nx pay cost _ (chB_okN c1) (by omega))) (by
      rw [thaw_two]
      have := f29_own c1 (show (stopsL nx.length pay (bestL nx pay cost) nx.length).length ≤ maxLen by omega) so ss
      rw [sv] at this; exact this)
  have c37 := toQ (by decide) (liftX (by decide) (f37_con C))
  rw [thaw_three] at c16
  rw [thaw_two] at c29
  have l1 := bestL_len C
  generalize stopsL nx.length pay (bestL nx pay cost) nx.length = sl at *
  generalize bestL nx pay cost = B at *
  rw [← hn] at l1
  obtain ⟨m, hm⟩ : ∃ m, sl.length = m := ⟨_, rfl⟩
  have k16 := fun h h' K => ConW_any (h := h) (h' := h') (K := K) c16 rfl rfl
  have k29 := fun h h' K => ConW_free (h := h) (h' := h') (K := K) c29 rfl (free_rule B)
  have k37 := fun h h' K => ConW_any (h := h) (h' := h') (K := K) c37 rfl rfl
  have hi16 := fun g => import_best g B sl l1 hm
  have hi29 := fun g => import_rule g B l1
  have hi37 : ∀ (h : Hp) (a : List (Int × Int)) (l : List Int), importR h (.tup [LP a, LI l]) = (.tup [LP a, LI l], h) := fun _ _ _ => rfl
  have k33 := fun h h' K => ConW_num (h := h) (h' := h') (K := K) (toQ (by decide) (liftX (by decide) (f33_con B B (by omega) (by omega)))) rfl
  rw [decide_eq_true rfl] at k33
  have k22 := fun (l : List Int) (hl : l.length ≤ maxLen) h h' K => ConW_num (h := h) (h' := h') (K := K) (toQ (by decide) (liftX (by decide) (f22_con l l hl hl))) rfl
  have k22s := k22 sl (by omega)
  have k22p := k22 pay (by omega)
  have k22c := k22 cost (by omega)
  rw [decide_eq_true rfl] at k22s k22p k22c
  refine Con_intro Try.func10 rfl okQ10 (Nat.le_of_ble_eq_true rfl) rfl ?_
  simp only [Try.f10, Option.getD_some, initSt1]
  simp (disch := first | (simp only [go_sem, gb0, eq_self]; done) | omega | (simp only [gl1, gl2]; omega)) only [go_sem, ↓reduceIte, Nat.reduceEqDiff, Nat.reduceAdd, Nat.reduceMul, Nat.reduceSub, Int.reduceToNat, Nat.reduceBEq, hal, hal2, hse, k15, hi15, hst, ↓stopY 2 false]
  refine WPy_go (fun st h => st 2 = .bool false ∧ st 3 = .ptr 4 0 ∧ h.nx = 5 ∧ h.bl 1 = some (.cells false true (nx.flatMap (e1 LI))) ∧ h.bl 2 = some (.cells false true (pay.flatMap (e1 I))) ∧ h.bl 3 = some (.cells false true (cost.flatMap (e1 I))) ∧ h.bl 4 = some (.cells false false [.sl 1 0 n 1, .sl 2 0 n 1, .sl 3 0 n 1])) ⟨by simp [upd, Hp.put, Hp.alloc], by simp [upd, Hp.put, Hp.alloc], (by simp (disch := first | (simp only [go_sem, gb0, eq_self]; done) | omega | (simp only [gl1, gl2]; omega)) only [go_sem, ↓reduceIte, Nat.reduceEqDiff, Nat.reduceAdd, Nat.reduceMul, Nat.reduceSub, Int.reduceToNat, Nat.reduceBEq])⟩ ?_
  rintro st h ⟨s2, s3, hnx, b1, b2, b3, b4⟩
  have hse3 := seal_own3 (R := nx) (P := pay) (C := cost) b1 b2 b3 (by decide) (by decide) (by decide)
  rw [hlp, hlc, ← hn] at hse3
  simp (disch := first | (simp only [go_sem, gb0, eq_self]; done) | omega | (simp only [gl1, gl2]; omega)) only [go_sem, ↓reduceIte, Nat.reduceEqDiff, Nat.reduceAdd, Nat.reduceMul, Nat.reduceSub, Int.reduceToNat, Nat.reduceBEq, s2, s3, b4, hse3, k17, hi15, hal2, hst, hnx, ↓stopY 3 false]
  refine WPy_go (fun st h => st 2 = .bool false ∧ st 3 = .ptr 4 0 ∧ st 4 = .ptr 8 0 ∧ h.nx = 9 ∧ (h.bl 1 = some (.cells true true (nx.flatMap (e1 LI))) ∧ h.bl 2 = some (.cells true true (pay.flatMap (e1 I))) ∧ h.bl 3 = some (.cells true true (cost.flatMap (e1 I))) ∧ h.bl 4 = some (.cells false false [.sl 1 0 n 1, .sl 2 0 n 1, .sl 3 0 n 1])) ∧
    (h.bl 5 = some (.cells false true (nx.flatMap (e1 LI))) ∧ h.bl 6 = some (.cells false true (pay.flatMap (e1 I))) ∧ h.bl 7 = some (.cells false true (cost.flatMap (e1 I))) ∧ h.bl 8 = some (.cells false false [.sl 5 0 n 1, .sl 6 0 n 1, .sl 7 0 n 1])))
    ⟨by simp [upd, Hp.put, Hp.alloc, s2, s3], by simp [upd, Hp.put, Hp.alloc, s2, s3], by simp [upd, Hp.put, Hp.alloc, s2, s3], by simp [upd, Hp.put, Hp.alloc, hnx], ⟨by simp [upd, Hp.put, Hp.alloc, hnx], by simp [upd, Hp.put, Hp.alloc, hnx], by simp [upd, Hp.put, Hp.alloc, hnx], by simp [upd, Hp.put, Hp.alloc, hnx, b4]⟩, by simp [upd, Hp.put, Hp.alloc, hnx], by simp [upd, Hp.put, Hp.alloc, hnx], by simp [upd, Hp.put, Hp.alloc, hnx], by simp [upd, Hp.put, Hp.alloc, hnx]⟩ ?_
  clear hnx b1 b2 b3 b4 hse3 s2 s3 h
  rintro st h ⟨s2, s3, s4, hnx, ⟨b1, b2, b3, b4⟩, b5, b6, b7, b8⟩
  have hsA := seal_frz4 (R := nx) (P := pay) (C := cost) b1 b2 b3 (by decide) (by decide) (by decide)
  rw [hlp, hlc, ← hn] at hsA
  simp (disch := first | (simp only [go_sem, gb0, eq_self]; done) | omega | (simp only [gl1, gl2]; omega)) only [go_sem, ↓reduceIte, Nat.reduceEqDiff, Nat.reduceAdd, Nat.reduceMul, Nat.reduceSub, Int.reduceToNat, Nat.reduceBEq, s2, s3, s4, b4, hsA, k16, hi16, hnx, ↓stopY 4 false]
  refine WPy_go (fun st h => st 2 = .bool false ∧ st 3 = .ptr 4 0 ∧ st 4 = .ptr 8 0 ∧ st 5 = .sl 9 0 n 2 ∧ st 6 = .sl 10 0 m 1 ∧ st 7 = I 0 ∧ h.nx = 11 ∧ (h.bl 1 = some (.cells true true (nx.flatMap (e1 LI))) ∧ h.bl 2 = some (.cells true true (pay.flatMap (e1 I))) ∧ h.bl 3 = some (.cells true true (cost.flatMap (e1 I))) ∧ h.bl 4 = some (.cells false false [.sl 1 0 n 1, .sl 2 0 n 1, .sl 3 0 n 1])) ∧
    (h.bl 5 = some (.cells false true (nx.flatMap (e1 LI))) ∧ h.bl 6 = some (.cells false true (pay.flatMap (e1 I))) ∧ h.bl 7 = some (.cells false true (cost.flatMap (e1 I))) ∧ h.bl 8 = some (.cells false false [.sl 5 0 n 1, .sl 6 0 n 1, .sl 7 0 n 1])) ∧
    h.bl 9 = some (.cells false true (B.flatMap eP)) ∧ h.bl 10 = some (.cells false true (sl.flatMap (e1 I))))
    ⟨by simp [upd, Hp.put, Hp.alloc, s2, s3, s4], by simp [upd, Hp.put, Hp.alloc, s2, s3, s4], by simp [upd, Hp.put, Hp.alloc, s2, s3, s4], by simp [upd, Hp.put, Hp.alloc, s2, s3, s4], by simp [upd, Hp.put, Hp.alloc, s2, s3, s4], by simp [upd, Hp.put, Hp.alloc, s2, s3, s4], by simp [upd, Hp.put, Hp.alloc, hnx], ⟨by simp [upd, Hp.put, Hp.alloc, hnx, b1], by simp [upd, Hp.put, Hp.alloc, hnx, b2], by simp [upd, Hp.put, Hp.alloc, hnx, b3], by simp [upd, Hp.put, Hp.alloc, hnx, b4]⟩, ⟨by simp [upd, Hp.put, Hp.alloc, hnx, b5], by simp [upd, Hp.put, Hp.alloc, hnx, b6], by simp [upd, Hp.put, Hp.alloc, hnx, b7], by simp [upd, Hp.put, Hp.alloc, hnx, b8]⟩, by simp [upd, Hp.put, Hp.alloc, hnx], by simp [upd, Hp.put, Hp.alloc, hnx]⟩ ?_
  clear hnx b1 b2 b3 b4 b5 b6 b7 b8 hsA s2 s3 s4 h
  rintro st h ⟨s2, s3, s4, s5, s6, s7, hnx, ⟨b1, b2, b3, b4⟩, ⟨b5, b6, b7, b8⟩, b9, b10⟩
  have hsB := seal_own3 (R := nx) (P := pay) (C := cost) b5 b6 b7 (by decide) (by decide) (by decide)
  rw [hlp, hlc, ← hn] at hsB
  simp (disch := first | (simp only [go_sem, gb0, eq_self]; done) | omega | (simp only [gl1, gl2]; omega)) only [go_sem, ↓reduceIte, Nat.reduceEqDiff, Nat.reduceAdd, Nat.reduceMul, Nat.reduceSub, Int.reduceToNat, Nat.reduceBEq, s2, s3, s4, s5, s6, s7, b8, hsB, k37, hi37, ↓stopY 5 false]
  refine WPy_go (fun st h => st 2 = .bool false ∧ st 3 = .ptr 4 0 ∧ st 4 = .ptr 8 0 ∧ st 5 = .sl 9 0 n 2 ∧ st 6 = .sl 10 0 m 1 ∧ st 7 = I 0 ∧ st 8 = LP B ∧ st 9 = LI sl ∧ h.nx = 11 ∧ (h.bl 1 = some (.cells true true (nx.flatMap (e1 LI))) ∧ h.bl 2 = some (.cells true true (pay.flatMap (e1 I))) ∧ h.bl 3 = some (.cells true true (cost.flatMap (e1 I))) ∧ h.bl 4 = some (.cells false false [.sl 1 0 n 1, .sl 2 0 n 1, .sl 3 0 n 1])) ∧
    (h.bl 5 = some (.cells true true (nx.flatMap (e1 LI))) ∧ h.bl 6 = some (.cells true true (pay.flatMap (e1 I))) ∧ h.bl 7 = some (.cells true true (cost.flatMap (e1 I))) ∧ h.bl 8 = some (.cells false false [.sl 5 0 n 1, .sl 6 0 n 1, .sl 7 0 n 1])) ∧
    h.bl 9 = some (.cells false true (B.flatMap eP)) ∧ h.bl 10 = some (.cells false true (sl.flatMap (e1 I))))
    ⟨by simp [upd, Hp.put, Hp.alloc, s2, s3, s4, s5, s6, s7], by simp [upd, Hp.put, Hp.alloc, s2, s3, s4, s5, s6, s7], by simp [upd, Hp.put, Hp.alloc, s2, s3, s4, s5, s6, s7], by simp [upd, Hp.put, Hp.alloc, s2, s3, s4, s5, s6, s7], by simp [upd, Hp.put, Hp.alloc, s2, s3, s4, s5, s6, s7], by simp [upd, Hp.put, Hp.alloc, s2, s3, s4, s5, s6, s7], by simp [upd, Hp.put, Hp.alloc, s2, s3, s4, s5, s6, s7], by simp [upd, Hp.put, Hp.alloc, s2, s3, s4, s5, s6, s7], by simp [upd, Hp.put, Hp.alloc, hnx], ⟨by simp [upd, Hp.put, Hp.alloc, b1], by simp [upd, Hp.put, Hp.alloc, b2], by simp [upd, Hp.put, Hp.alloc, b3], by simp [upd, Hp.put, Hp.alloc, b4]⟩, ⟨by simp [upd, Hp.put, Hp.alloc], by simp [upd, Hp.put, Hp.alloc], by simp [upd, Hp.put, Hp.alloc], by simp [upd, Hp.put, Hp.alloc, b8]⟩, by simp [upd, Hp.put, Hp.alloc, b9], by simp [upd, Hp.put, Hp.alloc, b10]⟩ ?_
  clear hnx b1 b2 b3 b4 b5 b6 b7 b8 b9 b10 hsB s2 s3 s4 s5 s6 s7 h
  rintro st h ⟨s2, s3, s4, s5, s6, s7, s8, s9, hnx, ⟨b1, b2, b3, b4⟩, ⟨b5, b6, b7, b8⟩, b9, b10⟩
  have hs9 := seal_frs b9 l1
  have hs10 := seal_ints b10 hm
  simp (disch := first | (simp only [go_sem, gb0, eq_self]; done) | omega | (simp only [gl1, gl2]; omega)) only [go_sem, ↓reduceIte, Nat.reduceEqDiff, Nat.reduceAdd, Nat.reduceMul, Nat.reduceSub, Int.reduceToNat, Nat.reduceBEq, s2, s3, s4, s5, s6, s7, s8, s9, hs9, hs10, k33, k22s, ↓stopY 7 false]
  have hsA := seal_frz4 (R := nx) (P := pay) (C := cost) b1 b2 b3 (by decide) (by decide) (by decide)
  rw [hlp, hlc, ← hn] at hsA
  unfold WPy
  simp (disch := first | (simp only [go_sem, gb0, eq_self]; done) | omega | (simp only [gl1, gl2]; omega)) only [go_sem, ↓reduceIte, Nat.reduceEqDiff, Nat.reduceAdd, Nat.reduceMul, Nat.reduceSub, Int.reduceToNat, Nat.reduceBEq, s2, s3, s4, s5, s6, s7, s8, s9, b4, hsA, hs10, k29, hi29, hnx, ↓stopY 8 false]
  refine WPy_go (fun st h => st 2 = .bool false ∧ st 3 = .ptr 4 0 ∧ st 4 = .ptr 8 0 ∧ st 5 = .sl 9 0 n 2 ∧ st 6 = .sl 10 0 m 1 ∧ st 7 = I 0 ∧ st 8 = LP B ∧ st 9 = LI sl ∧ st 10 = .sl 11 0 n 2 ∧ st 11 = I 0 ∧ Mem10 n nx pay cost h ∧ (∃ fl, h.bl 9 = some (.cells false true fl) ∧ fl.length = n * 2) ∧ (∃ fl, h.bl 10 = some (.cells false true fl) ∧ fl.length = m) ∧ (∃ fl, h.bl 11 = some (.cells false true fl) ∧ fl.length = n * 2))
    ⟨by simp [upd, Hp.put, Hp.alloc, s2, s3, s4, s5, s6, s7, s8, s9], by simp [upd, Hp.put, Hp.alloc, s2, s3, s4, s5, s6, s7, s8, s9], by simp [upd, Hp.put, Hp.alloc, s2, s3, s4, s5, s6, s7, s8, s9], by simp [upd, Hp.put, Hp.alloc, s2, s3, s4, s5, s6, s7, s8, s9], by simp [upd, Hp.put, Hp.alloc, s2, s3, s4, s5, s6, s7, s8, s9], by simp [upd, Hp.put, Hp.alloc, s2, s3, s4, s5, s6, s7, s8, s9], by simp [upd, Hp.put, Hp.alloc, s2, s3, s4, s5, s6, s7, s8, s9], by simp [upd, Hp.put, Hp.alloc, s2, s3, s4, s5, s6, s7, s8, s9], by simp [upd, Hp.put, Hp.alloc, s2, s3, s4, s5, s6, s7, s8, s9], by simp [upd, Hp.put, Hp.alloc, s2, s3, s4, s5, s6, s7, s8, s9], ⟨by simp [upd, Hp.put, Hp.alloc, hnx], ⟨by simp [upd, Hp.put, Hp.alloc, hnx, b1], by simp [upd, Hp.put, Hp.alloc, hnx, b2], by simp [upd, Hp.put, Hp.alloc, hnx, b3], by simp [upd, Hp.put, Hp.alloc, hnx, b4]⟩, by simp [upd, Hp.put, Hp.alloc, hnx, b5], by simp [upd, Hp.put, Hp.alloc, hnx, b6], by simp [upd, Hp.put, Hp.alloc, hnx, b7], by simp [upd, Hp.put, Hp.alloc, hnx, b8]⟩, ⟨B.flatMap eP, by simp [upd, Hp.put, Hp.alloc, hnx, b9], by rw [flatMap_len (f := eP) (sz := 2), l1]⟩, ⟨sl.flatMap (e1 I), by simp [upd, Hp.put, Hp.alloc, hnx, b10], by rw [flatMap_len (f := e1 I) (sz := 1), hm]; omega⟩, ⟨B.flatMap eP, by simp [upd, Hp.put, Hp.alloc, hnx], by rw [flatMap_len (f := eP) (sz := 2), l1]⟩⟩ ?_
  clear hnx b1 b2 b3 b4 b5 b6 b7 b8 b9 b10 hs9 hs10 hsA s2 s3 s4 s5 s6 s7 s8 s9 h
  rintro st h ⟨s2, s3, s4, s5, s6, s7, s8, s9, s10, s11, M, f9, f10, f11⟩
  simp (disch := first | (simp only [go_sem, gb0, eq_self]; done) | omega | (simp only [gl1, gl2]; omega)) only [go_sem, ↓reduceIte, Nat.reduceEqDiff, Nat.reduceAdd, Nat.reduceMul, Nat.reduceSub, Int.reduceToNat, Nat.reduceBEq, s2, s3, s4, s5, s6, s7, s8, s9, s10, s11]
  refine WP_cut (fun st h => st 2 = .bool false ∧ st 3 = .ptr 4 0 ∧ st 4 = .ptr 8 0 ∧ st 5 = .sl 9 0 n 2 ∧ st 6 = .sl 10 0 m 1 ∧ st 7 = I 0 ∧ st 8 = LP B ∧ st 9 = LI sl ∧ st 10 = .sl 11 0 n 2 ∧ st 11 = I 0 ∧ Mem10 n nx pay cost h ∧ (∃ fl, h.bl 10 = some (.cells false true fl) ∧ fl.length = m) ∧ (∃ fl, h.bl 11 = some (.cells false true fl) ∧ fl.length = n * 2)) ?_ ?_
  · refine WP_for 12 n (fun i st h => st 2 = .bool false ∧ st 3 = .ptr 4 0 ∧ st 4 = .ptr 8 0 ∧ st 5 = .sl 9 0 n 2 ∧ st 6 = .sl 10 0 m 1 ∧ st 7 = I 0 ∧ st 8 = LP B ∧ st 9 = LI sl ∧ st 10 = .sl 11 0 n 2 ∧ st 11 = I 0 ∧ Mem10 n nx pay cost h ∧ (∃ fl, h.bl 9 = some (.cells false true fl) ∧ fl.length = n * 2) ∧ (∃ fl, h.bl 10 = some (.cells false true fl) ∧ fl.length = m) ∧ (∃ fl, h.bl 11 = some (.cells false true fl) ∧ fl.length = n * 2)) (by simp (disch := first | (simp only [go_sem, gb0, eq_self]; done) | omega | (simp only [gl1, gl2]; omega)) only [go_sem, ↓reduceIte, Nat.reduceEqDiff, Nat.reduceAdd, Nat.reduceMul, Nat.reduceSub, Int.reduceToNat, Nat.reduceBEq])
      ⟨by simp [upd, Hp.put, Hp.alloc, s2, s3, s4, s5, s6, s7, s8, s9, s10, s11], by simp [upd, Hp.put, Hp.alloc, s2, s3, s4, s5, s6, s7, s8, s9, s10, s11], by simp [upd, Hp.put, Hp.alloc, s2, s3, s4, s5, s6, s7, s8, s9, s10, s11], by simp [upd, Hp.put, Hp.alloc, s2, s3, s4, s5, s6, s7, s8, s9, s10, s11], by simp [upd, Hp.put, Hp.alloc, s2, s3, s4, s5, s6, s7, s8, s9, s10, s11], by simp [upd, Hp.put, Hp.alloc, s2, s3, s4, s5, s6, s7, s8, s9, s10, s11], by simp [upd, Hp.put, Hp.alloc, s2, s3, s4, s5, s6, s7, s8, s9, s10, s11], by simp [upd, Hp.put, Hp.alloc, s2, s3, s4, s5, s6, s7, s8, s9, s10, s11], by simp [upd, Hp.put, Hp.alloc, s2, s3, s4, s5, s6, s7, s8, s9, s10, s11], by simp [upd, Hp.put, Hp.alloc, s2, s3, s4, s5, s6, s7, s8, s9, s10, s11], M, f9, f10, f11⟩ ?_
    rintro i st h hi s12 ⟨s2, s3, s4, s5, s6, s7, s8, s9, s10, s11, M, ⟨fl, b9, hfl⟩, f10, f11⟩
    by_cases hlt : i < n
    case neg =>
      obtain rfl : i = n := by omega
      simp (disch := first | (simp only [go_sem, gb0, eq_self]; done) | omega | (simp only [gl1, gl2]; omega)) only [go_sem, ↓reduceIte, Nat.reduceEqDiff, Nat.reduceAdd, Nat.reduceMul, Nat.reduceSub, Int.reduceToNat, Nat.reduceBEq, s2, s3, s4, s5, s6, s7, s8, s9, s10, s11, s12, hlt]
      exact ⟨M, f10, f11⟩
    have hlt' : (i : Int) < n := by omega
    have hsf := fun g => store_fr g 9 i n true fl hfl hlt
    have hsl2 := setL_two fl i n hfl hlt
    obtain ⟨hnx, ⟨b1, b2, b3, b4⟩, b5, b6, b7, b8⟩ := M
    obtain ⟨fl0, b10, hl0⟩ := f10
    obtain ⟨fl1, b11, hl1⟩ := f11
    simp (disch := first | (simp only [go_sem, gb0, eq_self]; done) | omega | (simp only [gl1, gl2]; omega)) only [go_sem, ↓reduceIte, Nat.reduceEqDiff, Nat.reduceAdd, Nat.reduceMul, Nat.reduceSub, Int.reduceToNat, Nat.reduceBEq, s2, s3, s4, s5, s6, s7, s8, s9, s10, s11, s12, hlt, hlt', b9, hsf]
    rw [ForK_normal]
    exact ⟨hlt, by simp [upd, Hp.put, Hp.alloc, s12], by simp [upd, Hp.put, Hp.alloc, s2], by simp [upd, Hp.put, Hp.alloc, s3], by simp [upd, Hp.put, Hp.alloc, s4], by simp [upd, Hp.put, Hp.alloc, s5], by simp [upd, Hp.put, Hp.alloc, s6], by simp [upd, Hp.put, Hp.alloc, s7], by simp [upd, Hp.put, Hp.alloc, s8], by simp [upd, Hp.put, Hp.alloc, s9], by simp [upd, Hp.put, Hp.alloc, s10], by simp [upd, Hp.put, Hp.alloc, s11], ⟨by simp [upd, Hp.put, Hp.alloc, hnx], ⟨by simp [upd, Hp.put, Hp.alloc, b1], by simp [upd, Hp.put, Hp.alloc, b2], by simp [upd, Hp.put, Hp.alloc, b3], by simp [upd, Hp.put, Hp.alloc, b4]⟩, by simp [upd, Hp.put, Hp.alloc, b5], by simp [upd, Hp.put, Hp.alloc, b6], by simp [upd, Hp.put, Hp.alloc, b7], by simp [upd, Hp.put, Hp.alloc, b8]⟩, ⟨_, by simp [upd, Hp.put, Hp.alloc], hsl2⟩, ⟨fl0, by simp [upd, Hp.put, Hp.alloc, b10], hl0⟩, ⟨fl1, by simp [upd, Hp.put, Hp.alloc, b11], hl1⟩⟩
  clear M f9 f10 f11 s2 s3 s4 s5 s6 s7 s8 s9 s10 s11
  rintro st h ⟨s2, s3, s4, s5, s6, s7, s8, s9, s10, s11, M, f10, f11⟩
  simp (disch := first | (simp only [go_sem, gb0, eq_self]; done) | omega | (simp only [gl1, gl2]; omega)) only [go_sem, ↓reduceIte, Nat.reduceEqDiff, Nat.reduceAdd, Nat.reduceMul, Nat.reduceSub, Int.reduceToNat, Nat.reduceBEq, s2, s3, s4, s5, s6, s7, s8, s9, s10, s11]
  refine WP_cut (fun st h => st 2 = .bool false ∧ st 3 = .ptr 4 0 ∧ st 4 = .ptr 8 0 ∧ st 5 = .sl 9 0 n 2 ∧ st 6 = .sl 10 0 m 1 ∧ st 7 = I 0 ∧ st 8 = LP B ∧ st 9 = LI sl ∧ st 10 = .sl 11 0 n 2 ∧ st 11 = I 0 ∧ Mem10 n nx pay cost h ∧ (∃ fl, h.bl 11 = some (.cells false true fl) ∧ fl.length = n * 2)) ?_ ?_
  · refine WP_for 13 m (fun i st h => st 2 = .bool false ∧ st 3 = .ptr 4 0 ∧ st 4 = .ptr 8 0 ∧ st 5 = .sl 9 0 n 2 ∧ st 6 = .sl 10 0 m 1 ∧ st 7 = I 0 ∧ st 8 = LP B ∧ st 9 = LI sl ∧ st 10 = .sl 11 0 n 2 ∧ st 11 = I 0 ∧ Mem10 n nx pay cost h ∧ (∃ fl, h.bl 10 = some (.cells false true fl) ∧ fl.length = m) ∧ (∃ fl, h.bl 11 = some (.cells false true fl) ∧ fl.length = n * 2)) (by simp (disch := first | (simp only [go_sem, gb0, eq_self]; done) | omega | (simp only [gl1, gl2]; omega)) only [go_sem, ↓reduceIte, Nat.reduceEqDiff, Nat.reduceAdd, Nat.reduceMul, Nat.reduceSub, Int.reduceToNat, Nat.reduceBEq])
      ⟨by simp [upd, Hp.put, Hp.alloc, s2, s3, s4, s5, s6, s7, s8, s9, s10, s11], by simp [upd, Hp.put, Hp.alloc, s2, s3, s4, s5, s6, s7, s8, s9, s10, s11], by simp [upd, Hp.put, Hp.alloc, s2, s3, s4, s5, s6, s7, s8, s9, s10, s11], by simp [upd, Hp.put, Hp.alloc, s2, s3, s4, s5, s6, s7, s8, s9, s10, s11], by simp [upd, Hp.put, Hp.alloc, s2, s3, s4, s5, s6, s7, s8, s9, s10, s11], by simp [upd, Hp.put, Hp.alloc, s2, s3, s4, s5, s6, s7, s8, s9, s10, s11], by simp [upd, Hp.put, Hp.alloc, s2, s3, s4, s5, s6, s7, s8, s9, s10, s11], by simp [upd, Hp.put, Hp.alloc, s2, s3, s4, s5, s6, s7, s8, s9, s10, s11], by simp [upd, Hp.put, Hp.alloc, s2, s3, s4, s5, s6, s7, s8, s9, s10, s11], by simp [upd, Hp.put, Hp.alloc, s2, s3, s4, s5, s6, s7, s8, s9, s10, s11], M, f10, f11⟩ ?_
    rintro i st h hi s13 ⟨s2, s3, s4, s5, s6, s7, s8, s9, s10, s11, M, ⟨fl, b10, hfl⟩, f11⟩
    by_cases hlt : i < m
    case neg =>
      simp (disch := first | (simp only [go_sem, gb0, eq_self]; done) | omega | (simp only [gl1, gl2]; omega)) only [go_sem, ↓reduceIte, Nat.reduceEqDiff, Nat.reduceAdd, Nat.reduceMul, Nat.reduceSub, Int.reduceToNat, Nat.reduceBEq, s2, s3, s4, s5, s6, s7, s8, s9, s10, s11, s13, hlt]
      exact ⟨M, f11⟩
    have hlt' : (i : Int) < m := by omega
    have hlf : i < fl.length := by omega
    have hso := fun g : Hp => storeC_one (h := g) 10 i true fl (I (-1)) rfl hlf
    obtain ⟨hnx, ⟨b1, b2, b3, b4⟩, b5, b6, b7, b8⟩ := M
    obtain ⟨fl1, b11, hl1⟩ := f11
    simp (disch := first | (simp only [go_sem, gb0, eq_self]; done) | omega | (simp only [gl1, gl2]; omega)) only [go_sem, ↓reduceIte, Nat.reduceEqDiff, Nat.reduceAdd, Nat.reduceMul, Nat.reduceSub, Int.reduceToNat, Nat.reduceBEq, s2, s3, s4, s5, s6, s7, s8, s9, s10, s11, s13, hlt, hlt', hlf, b10, hso]
    rw [ForK_normal]
    exact ⟨hlt, by simp [upd, Hp.put, Hp.alloc, s13], by simp [upd, Hp.put, Hp.alloc, s2], by simp [upd, Hp.put, Hp.alloc, s3], by simp [upd, Hp.put, Hp.alloc, s4], by simp [upd, Hp.put, Hp.alloc, s5], by simp [upd, Hp.put, Hp.alloc, s6], by simp [upd, Hp.put, Hp.alloc, s7], by simp [upd, Hp.put, Hp.alloc, s8], by simp [upd, Hp.put, Hp.alloc, s9], by simp [upd, Hp.put, Hp.alloc, s10], by simp [upd, Hp.put, Hp.alloc, s11], ⟨by simp [upd, Hp.put, Hp.alloc, hnx], ⟨by simp [upd, Hp.put, Hp.alloc, b1], by simp [upd, Hp.put, Hp.alloc, b2], by simp [upd, Hp.put, Hp.alloc, b3], by simp [upd, Hp.put, Hp.alloc, b4]⟩, by simp [upd, Hp.put, Hp.alloc, b5], by simp [upd, Hp.put, Hp.alloc, b6], by simp [upd, Hp.put, Hp.alloc, b7], by simp [upd, Hp.put, Hp.alloc, b8]⟩, ⟨fl.set i (I (-1)), by simp [upd, Hp.put, Hp.alloc], by rw [List.length_set]; exact hfl⟩, ⟨fl1, by simp [upd, Hp.put, Hp.alloc, b11], hl1⟩⟩
  clear M f10 f11 s2 s3 s4 s5 s6 s7 s8 s9 s10 s11
  rintro st h ⟨s2, s3, s4, s5, s6, s7, s8, s9, s10, s11, M, f11⟩
  simp (disch := first | (simp only [go_sem, gb0, eq_self]; done) | omega | (simp only [gl1, gl2]; omega)) only [go_sem, ↓reduceIte, Nat.reduceEqDiff, Nat.reduceAdd, Nat.reduceMul, Nat.reduceSub, Int.reduceToNat, Nat.reduceBEq, s2, s3, s4, s5, s6, s7, s8, s9, s10, s11]
  refine WP_cut (fun st h => st 2 = .bool false ∧ st 3 = .ptr 4 0 ∧ st 4 = .ptr 8 0 ∧ st 5 = .sl 9 0 n 2 ∧ st 6 = .sl 10 0 m 1 ∧ st 7 = I 0 ∧ st 8 = LP B ∧ st 9 = LI sl ∧ st 10 = .sl 11 0 n 2 ∧ st 11 = I 0 ∧ Mem10 n nx pay cost h) ?_ ?_
  · refine WP_for 14 n (fun i st h => st 2 = .bool false ∧ st 3 = .ptr 4 0 ∧ st 4 = .ptr 8 0 ∧ st 5 = .sl 9 0 n 2 ∧ st 6 = .sl 10 0 m 1 ∧ st 7 = I 0 ∧ st 8 = LP B ∧ st 9 = LI sl ∧ st 10 = .sl 11 0 n 2 ∧ st 11 = I 0 ∧ Mem10 n nx pay cost h ∧ (∃ fl, h.bl 11 = some (.cells false true fl) ∧ fl.length = n * 2)) (by simp (disch := first | (simp only [go_sem, gb0, eq_self]; done) | omega | (simp only [gl1, gl2]; omega)) only [go_sem, ↓reduceIte, Nat.reduceEqDiff, Nat.reduceAdd, Nat.reduceMul, Nat.reduceSub, Int.reduceToNat, Nat.reduceBEq])
      ⟨by simp [upd, Hp.put, Hp.alloc, s2, s3, s4, s5, s6, s7, s8, s9, s10, s11], by simp [upd, Hp.put, Hp.alloc, s2, s3, s4, s5, s6, s7, s8, s9, s10, s11], by simp [upd, Hp.put, Hp.alloc, s2, s3, s4, s5, s6, s7, s8, s9, s10, s11], by simp [upd, Hp.put, Hp.alloc, s2, s3, s4, s5, s6, s7, s8, s9, s10, s11], by simp [upd, Hp.put, Hp.alloc, s2, s3, s4, s5, s6, s7, s8, s9, s10, s11], by simp [upd, Hp.put, Hp.alloc, s2, s3, s4, s5, s6, s7, s8, s9, s10, s11], by simp [upd, Hp.put, Hp.alloc, s2, s3, s4, s5, s6, s7, s8, s9, s10, s11], by simp [upd, Hp.put, Hp.alloc, s2, s3, s4, s5, s6, s7, s8, s9, s10, s11], by simp [upd, Hp.put, Hp.alloc, s2, s3, s4, s5, s6, s7, s8, s9, s10, s11], by simp [upd, Hp.put, Hp.alloc, s2, s3, s4, s5, s6, s7, s8, s9, s10, s11], M, f11⟩ ?_
    rintro i st h hi s14 ⟨s2, s3, s4, s5, s6, s7, s8, s9, s10, s11, M, ⟨fl, b11, hfl⟩⟩
    by_cases hlt : i < n
    case neg =>
      simp (disch := first | (simp only [go_sem, gb0, eq_self]; done) | omega | (simp only [gl1, gl2]; omega)) only [go_sem, ↓reduceIte, Nat.reduceEqDiff, Nat.reduceAdd, Nat.reduceMul, Nat.reduceSub, Int.reduceToNat, Nat.reduceBEq, s2, s3, s4, s5, s6, s7, s8, s9, s10, s11, s14, hlt]
      exact M
    have hlt' : (i : Int) < n := by omega
    have hsf := fun g => store_fr g 11 i n true fl hfl hlt
    have hsl2 := setL_two fl i n hfl hlt
    obtain ⟨hnx, ⟨b1, b2, b3, b4⟩, b5, b6, b7, b8⟩ := M
    simp (disch := first | (simp only [go_sem, gb0, eq_self]; done) | omega | (simp only [gl1, gl2]; omega)) only [go_sem, ↓reduceIte, Nat.reduceEqDiff, Nat.reduceAdd, Nat.reduceMul, Nat.reduceSub, Int.reduceToNat, Nat.reduceBEq, s2, s3, s4, s5, s6, s7, s8, s9, s10, s11, s14, hlt, hlt', b11, hsf]
    rw [ForK_normal]
    exact ⟨hlt, by simp [upd, Hp.put, Hp.alloc, s14], by simp [upd, Hp.put, Hp.alloc, s2], by simp [upd, Hp.put, Hp.alloc, s3], by simp [upd, Hp.put, Hp.alloc, s4], by simp [upd, Hp.put, Hp.alloc, s5], by simp [upd, Hp.put, Hp.alloc, s6], by simp [upd, Hp.put, Hp.alloc, s7], by simp [upd, Hp.put, Hp.alloc, s8], by simp [upd, Hp.put, Hp.alloc, s9], by simp [upd, Hp.put, Hp.alloc, s10], by simp [upd, Hp.put, Hp.alloc, s11], ⟨by simp [upd, Hp.put, Hp.alloc, hnx], ⟨by simp [upd, Hp.put, Hp.alloc, b1], by simp [upd, Hp.put, Hp.alloc, b2], by simp [upd, Hp.put, Hp.alloc, b3], by simp [upd, Hp.put, Hp.alloc, b4]⟩, by simp [upd, Hp.put, Hp.alloc, b5], by simp [upd, Hp.put, Hp.alloc, b6], by simp [upd, Hp.put, Hp.alloc, b7], by simp [upd, Hp.put, Hp.alloc, b8]⟩, ⟨_, by simp [upd, Hp.put, Hp.alloc], hsl2⟩⟩
  clear M f11 s2 s3 s4 s5 s6 s7 s8 s9 s10 s11
  rintro st h ⟨s2, s3, s4, s5, s6, s7, s8, s9, s10, s11, hnx, ⟨b1, b2, b3, b4⟩, b5, b6, b7, b8⟩
  have hsA := seal_frz4 (R := nx) (P := pay) (C := cost) b1 b2 b3 (by decide) (by decide) (by decide)
  rw [hlp, hlc, ← hn] at hsA
  simp (disch := first | (simp only [go_sem, gb0, eq_self]; done) | omega | (simp only [gl1, gl2]; omega)) only [go_sem, ↓reduceIte, Nat.reduceEqDiff, Nat.reduceAdd, Nat.reduceMul, Nat.reduceSub, Int.reduceToNat, Nat.reduceBEq, s2, s3, s4, s5, s6, s7, s8, s9, s10, s11, b4, hsA, k16, hi16, hnx, ↓stopY 21 false]
  refine WPy_go (fun st h => (st 2 = .bool false ∧ st 3 = .ptr 4 0 ∧ st 4 = .ptr 8 0 ∧ st 5 = .sl 9 0 n 2 ∧ st 6 = .sl 10 0 m 1 ∧ st 7 = I 0 ∧ st 8 = LP B ∧ st 9 = LI sl ∧ st 11 = I 0 ∧ st 15 = .sl 12 0 n 2 ∧ st 16 = .sl 13 0 m 1 ∧ st 17 = I 0) ∧ h.nx = 14 ∧ (h.bl 1 = some (.cells true true (nx.flatMap (e1 LI))) ∧ h.bl 2 = some (.cells true true (pay.flatMap (e1 I))) ∧ h.bl 3 = some (.cells true true (cost.flatMap (e1 I))) ∧ h.bl 4 = some (.cells false false [.sl 1 0 n 1, .sl 2 0 n 1, .sl 3 0 n 1])) ∧
    (h.bl 5 = some (.cells true true (nx.flatMap (e1 LI))) ∧ h.bl 6 = some (.cells true true (pay.flatMap (e1 I))) ∧ h.bl 7 = some (.cells true true (cost.flatMap (e1 I))) ∧ h.bl 8 = some (.cells false false [.sl 5 0 n 1, .sl 6 0 n 1, .sl 7 0 n 1])) ∧
    h.bl 12 = some (.cells false true (B.flatMap eP)) ∧ h.bl 13 = some (.cells false true (sl.flatMap (e1 I))))
    ⟨⟨by simp [upd, Hp.put, Hp.alloc, s2, s3, s4, s5, s6, s7, s8, s9, s10, s11], by simp [upd, Hp.put, Hp.alloc, s2, s3, s4, s5, s6, s7, s8, s9, s10, s11], by simp [upd, Hp.put, Hp.alloc, s2, s3, s4, s5, s6, s7, s8, s9, s10, s11], by simp [upd, Hp.put, Hp.alloc, s2, s3, s4, s5, s6, s7, s8, s9, s10, s11], by simp [upd, Hp.put, Hp.alloc, s2, s3, s4, s5, s6, s7, s8, s9, s10, s11], by simp [upd, Hp.put, Hp.alloc, s2, s3, s4, s5, s6, s7, s8, s9, s10, s11], by simp [upd, Hp.put, Hp.alloc, s2, s3, s4, s5, s6, s7, s8, s9, s10, s11], by simp [upd, Hp.put, Hp.alloc, s2, s3, s4, s5, s6, s7, s8, s9, s10, s11], by simp [upd, Hp.put, Hp.alloc, s11], by simp [upd, Hp.put, Hp.alloc], by simp [upd, Hp.put, Hp.alloc], by simp [upd, Hp.put, Hp.alloc]⟩, by simp [upd, Hp.put, Hp.alloc, hnx], ⟨by simp [upd, Hp.put, Hp.alloc, hnx, b1], by simp [upd, Hp.put, Hp.alloc, hnx, b2], by simp [upd, Hp.put, Hp.alloc, hnx, b3], by simp [upd, Hp.put, Hp.alloc, hnx, b4]⟩, ⟨by simp [upd, Hp.put, Hp.alloc, hnx, b5], by simp [upd, Hp.put, Hp.alloc, hnx, b6], by simp [upd, Hp.put, Hp.alloc, hnx, b7], by simp [upd, Hp.put, Hp.alloc, hnx, b8]⟩, by simp [upd, Hp.put, Hp.alloc, hnx], by simp [upd, Hp.put, Hp.alloc, hnx]⟩ ?_
  clear hnx b1 b2 b3 b4 b5 b6 b7 b8 hsA s2 s3 s4 s5 s6 s7 s8 s9 s10 s11 h
  rintro st h ⟨⟨s2, s3, s4, s5, s6, s7, s8, s9, s11, s15, s16, s17⟩, hnx, ⟨b1, b2, b3, b4⟩, ⟨b5, b6, b7, b8⟩, b12, b13⟩
  have hp2 := seal_frz1 (n := n) b2 (by omega)
  have hp6 := seal_frz1 (n := n) b6 (by omega)
  have hc3 := seal_frz1 (n := n) b3 (by omega)
  have hc7 := seal_frz1 (n := n) b7 (by omega)
  simp (disch := first | (simp only [go_sem, gb0, eq_self]; done) | omega | (simp only [gl1, gl2]; omega)) only [go_sem, ↓reduceIte, Nat.reduceEqDiff, Nat.reduceAdd, Nat.reduceMul, Nat.reduceSub, Int.reduceToNat, Nat.reduceBEq, s2, s3, s4, s5, s6, s7, s8, s9, s11, s15, s16, s17, b4, b8, hnx, hp2, hp6, hc3, hc7, k22p, k22c]
  have hs12 := seal_frs b12 l1
  have hs13 := seal_ints b13 hm
  have d4 : 4 < h.nx := by omega
  refine WP_for 18 n (fun i st g => (st 2 = .bool false ∧ st 3 = .ptr 4 0 ∧ st 4 = .ptr 8 0 ∧ st 5 = .sl 9 0 n 2 ∧ st 6 = .sl 10 0 m 1 ∧ st 7 = I 0 ∧ st 8 = LP B ∧ st 9 = LI sl ∧ st 15 = .sl 12 0 n 2 ∧ st 16 = .sl 13 0 m 1) ∧ g = h) (by simp (disch := first | (simp only [go_sem, gb0, eq_self]; done) | omega | (simp only [gl1, gl2]; omega)) only [go_sem, ↓reduceIte, Nat.reduceEqDiff, Nat.reduceAdd, Nat.reduceMul, Nat.reduceSub, Int.reduceToNat, Nat.reduceBEq]) ⟨⟨by simp [upd, Hp.put, Hp.alloc, s2], by simp [upd, Hp.put, Hp.alloc, s3], by simp [upd, Hp.put, Hp.alloc, s4], by simp [upd, Hp.put, Hp.alloc, s5], by simp [upd, Hp.put, Hp.alloc, s6], by simp [upd, Hp.put, Hp.alloc, s7], by simp [upd, Hp.put, Hp.alloc, s8], by simp [upd, Hp.put, Hp.alloc, s9], by simp [upd, Hp.put, Hp.alloc, s15], by simp [upd, Hp.put, Hp.alloc, s16]⟩, rfl⟩ ?_
  rintro i st g hi s18 ⟨⟨s2, s3, s4, s5, s6, s7, s8, s9, s15, s16⟩, rfl⟩
  by_cases hlt : i < n
  case neg =>
    obtain rfl : i = n := by omega
    simp (disch := first | (simp only [go_sem, gb0, eq_self]; done) | omega | (simp only [gl1, gl2]; omega)) only [go_sem, ↓reduceIte, Nat.reduceEqDiff, Nat.reduceAdd, Nat.reduceMul, Nat.reduceSub, Int.reduceToNat, Nat.reduceBEq, s2, s3, s4, s5, s6, s7, s8, s9, s18, s15, s16, b4, hnx, hlt, hs12, hs13, k33, k22s]
  have hlt' : (i : Int) < n := by omega
  have hrl : (nth nx i).length ≤ maxLen := by
    have := C.row i (by omega)
    omega
  have k22r := k22 (nth nx i) hrl
  rw [decide_eq_true rfl] at k22r
  have hcell : (nx.flatMap (e1 LI))[i]? = some (LI (nth nx i)) := flat_get LI nx i (by omega)
  simp (disch := first | (simp only [go_sem, gb0, eq_self]; done) | omega | (simp only [gl1, gl2]; omega)) only [go_sem, ↓reduceIte, Nat.reduceEqDiff, Nat.reduceAdd, Nat.reduceMul, Nat.reduceSub, Int.reduceToNat, Nat.reduceBEq, s2, s3, s4, s5, s6, s7, s8, s9, s18, s15, s16, b4, b8, b1, b5, hnx, hlt, hlt', hcell, k22r]
  rw [ForK_normal]
  exact ⟨hlt, by simp [upd, Hp.put, Hp.alloc, s18], ⟨by simp [upd, Hp.put, Hp.alloc, s2], by simp [upd, Hp.put, Hp.alloc, s3], by simp [upd, Hp.put, Hp.alloc, s4], by simp [upd, Hp.put, Hp.alloc, s5], by simp [upd, Hp.put, Hp.alloc, s6], by simp [upd, Hp.put, Hp.alloc, s7], by simp [upd, Hp.put, Hp.alloc, s8], by simp [upd, Hp.put, Hp.alloc, s9], by simp [upd, Hp.put, Hp.alloc, s15], by simp [upd, Hp.put, Hp.alloc, s16]⟩, rfl⟩
end Go.Proofs.Ytgamcclfdkpcgaa
