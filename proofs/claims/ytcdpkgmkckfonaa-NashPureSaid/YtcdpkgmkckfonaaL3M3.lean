/-
  solve: the walk up to the loops; what a round needs.
  solve: the loops.
  solve's answer by the tables; awake: run as it stands, with solve's answer put in.
  The laws' configuration: what solve and awake answer is known, and what else was shown of calls.
  NashPure.
  NashPure: the law.
  Games, mixes, tables, read as lists of numbers.
-/
import Derived.Test.YtcdpkgmkckfonaaL3M2
import Derived.Test.YtcdpkgmkckfonaaAmDefer
set_option linter.unusedVariables false
set_option linter.unusedSimpArgs false
set_option maxRecDepth 10000
namespace Go.Proofs.Ytcdpkgmkckfonaa
open Go Go.Am Go.RowKit

variable {h h' : Hp} {K : AV → Hp → Prop}

theorem WP.wide {P : Program} {cfg : Cfg} (hext : ExtOk P cfg) {c : Code} {n : Nat} (ho : codeOk cfg n c = true) {st : St} {h : Hp} {R : Exit → St → Hp → Prop} (hw : WP P cfg c st h R) {m : Nat} {w : World} {ctx : Ctx} {a : Act} (H : HR w ctx h) (S : SR n w ctx st a) {Q : Exit → Act → World → Prop}
    (hQ : ∀ x st' h', R x st' h' → ∀ w' c' a', Ext w ctx w' c' → HR w' c' h' → SR n w' c' st' a' → Q x a' w') : c.wpIn (rF none) m P Q a w := by
  obtain ⟨k, x, st', h', e, r⟩ := hw
  exact wpIn_wide.2 (((sound hext k).1 n c _ _ _ _ _ ho e).2 H S (hQ x st' h' r))
def cfgS : Cfg := { cfg with strict := fun a b => a == 1 && b == 10, late := fun a b => if a == 1 && b == 10 then [7] else [], wr := fun _ _ => [] }
@[go_sem] theorem cfgS_deep : cfgS.deep = false := by kernel_rfl
@[go_sem] theorem cfgS_wr (a b : Nat) : cfgS.wr a b = [] := rfl
@[go_sem] theorem cfgS_strict (a b : Nat) : cfgS.strict a b = (a == 1 && b == 10) := rfl
theorem hextS : ExtOk Try.prog cfgS := fun _ _ _ h => by cases h
def shA (xs : List Int) (d : Int) : AV := .agg [LI xs, I d]
theorem corsL_form {a : List (List Int)} {m n : Nat} {u : AV} (h : u ∈ corsL a m n) : ∃ xs d bs, u = corA xs d bs ∧ bs.length = 8 := by
  obtain ⟨s, _, rfl⟩ := List.mem_map.1 h
  exact ⟨_, _, _, rfl, fillR_len _ _ _ _⟩
theorem mem_pre {l : List AV} {pre : List AV} {u : AV} (h : pre ++ [u] <+: l) : u ∈ l := by
  obtain ⟨r, rfl⟩ := h
  simp
theorem find_pre {l : List AV} {p : AV → Bool} {pre : List AV} {u : AV} (h : pre ++ [u] <+: l) (hn : ∀ v ∈ pre, p v = false) (hu : p u = true) : l.find? p = some u := by
  obtain ⟨r, rfl⟩ := h
  rw [List.append_assoc, List.find?_append, List.find?_eq_none.2 fun x hx => by rw [hn x hx]; simp]
  simp [hu]
theorem corA_all (xs : List Int) (d : Int) (bs : List Bool) : (LI xs :: I d :: bs.flatMap (e1 AV.bool)).all AV.isCell = true := by
  rw [List.all_cons, List.all_cons, List.all_eq_true.2 fun y hy => ?_]
  · rfl
  · obtain ⟨b, _, hb⟩ := List.mem_flatMap.1 hy
    simp only [e1, List.mem_singleton] at hb
    rw [hb]; rfl
theorem corA_pure (xs : List Int) (d : Int) (bs : List Bool) : AV.pureL (LI xs :: I d :: bs.flatMap (e1 AV.bool)) = true := by
  have : AV.pureL (bs.flatMap (e1 AV.bool)) = true := pureL_all fun x hx => by
    obtain ⟨b, _, hb⟩ := List.mem_flatMap.1 hx
    simp only [e1, List.mem_singleton] at hb
    rw [hb]; rfl
  have h1 : (LI xs).isPure = true := pure_L _
  have h2 : (I d).isPure = true := rfl
  simp only [AV.pureL, this, h1, h2, Bool.and_true]

/-- What a round that leaves for good leaves, with a block that nobody touches. -/
def LeftS (w : World) (c : Ctx) (D : Nat) (R : Hp → Prop) (W : World) : Prop := ∃ c' h', Ext w c W c' ∧ HR W c' h' ∧ c'.fz D ∧ R h'
theorem LeftS.turn {w W : World} {c : Ctx} {h : Hp} {D : Nat} (H : HR w c h) {R : Hp → Prop} {l : Nat} {o o' : Obj} (hle : w.heap.size ≤ l) (hl : W.heap[l]? = some o) (ho : Loopy o) (ho' : Loopy o') (q : LeftS w c D R W) : LeftS w c D R (W.putObj l o') := by
  obtain ⟨c', h', E, H', hD, r⟩ := q
  exact ⟨c', h', E.turn hl ho ho' (Nat.le_trans H.base hle) (fun b hb e => by have := H.fzlt b hb; omega) (fun b hp e => by have := (H.priv b hp).1; omega), H'.turn hl ho ho', hD, r⟩
/-- What lay there is read alone; what came since is frozen. -/
def viewF (c : Ctx) (n : Nat) (W : World) : Ctx := { base := W.heap.size, nx := 0, loc := fun _ => .dead, fz := fun b => (viewC c W).fz b ∨ (n ≤ b ∧ b < W.heap.size) }
theorem viewF_start {w W : World} {c : Ctx} {h : Hp} (H : HR w c h) (hB : Below w.heap.size w W) (n : Nat) : HR W (viewF c n W) Hp.empty :=
  ctx_nil (w := W) (fz := (viewF c n W).fz) fun b hb => by
    rcases hb with hb | hb
    · exact Nat.lt_of_lt_of_le (viewC_lt H W b hb) hB.size
    · exact hb.2
theorem viewV_pure (h : Hp) (v : AV) : (viewV h v).isPure = true ∨ viewV h v = .undef := by
  cases v
  case ptr id off =>
    simp only [viewV]
    split
    · split
      · rename_i hp; exact .inl (by
          simp only [AV.isPure]
          exact pureL_all fun x hx => by
            obtain ⟨j, hj⟩ := List.getElem?_of_mem (List.mem_of_mem_drop hx)
            exact pureL_get hp hj)
      · exact .inr rfl
    · exact .inr rfl
  all_goals
    simp only [viewV]
    split
    · rename_i hp; exact .inl hp
    · exact .inr rfl
theorem viewF_ok {w W : World} {c : Ctx} {h : Hp} (H : HR w c h) (hB : Below w.heap.size w W) {n k : Nat} {st : St} {a : Act} (S : SR k w c st a) : SR k W (viewF c n W) (viewSt h st) a := by
  have S' := viewSt_ok H hB S
  refine ⟨S'.defers, S'.size, fun i => ?_⟩
  rcases viewV_pure h (st i) with hp | hu
  · exact (S'.val i).pure_mono ⟨fun b hb => .inl hb, fun b hb => rfl⟩ hp
  · show VR W _ (viewV h (st i)) _
    rw [hu]; exact .undef _
/-- The memory of solve when it comes to its loops. -/
structure SolveH (a : List (List Int)) (m n : Nat) (h : Hp) : Prop where
  nx : h.nx = 7
  b0 : h.bl 0 = some (.cells false false [LLI a])
  b1 : h.bl 1 = some (.cells false false [.nil, I 0])
  b2 : h.bl 2 = some (.cells false false [.nil, I 0])
  b3 : h.bl 3 = some (.cells false false [I m])
  b4 : h.bl 4 = some (.cells false false [I n])
  b5 : h.bl 5 = some (.cells false false [.nil, I 0])
  b6 : h.bl 6 = some (.cells false false [.nil, I 0])
structure SolveR (st : St) : Prop where
  s2 : st 2 = .ptr 0 0
  s4 : st 4 = .ptr 1 0
  s5 : st 5 = .ptr 2 0
  s6 : st 6 = .ptr 3 0
  s7 : st 7 = .ptr 4 0
  s8 : st 8 = .ptr 5 0
  s9 : st 9 = .ptr 6 0
end Go.Proofs.Ytcdpkgmkckfonaa

set_option linter.unusedVariables false
set_option linter.unusedSimpArgs false
set_option maxRecDepth 10000
namespace Go.Proofs.Ytcdpkgmkckfonaa
open Go Go.Am Go.RowKit

variable {h h' : Hp} {K : AV → Hp → Prop}

theorem solve_pure {a b at_ : List (List Int)} {m n : Nat} (Ta : Tb a m n) (Tb' : Tb b m n) (hturn : Con Try.prog cfg 53 [LLI a] (LLI at_)) (Tt : Tb at_ n m) {φ : AV → AV → Bool}
    (hφ : ∀ u ∈ corsL b m n, ∀ v ∈ corsL at_ n m, Con Try.prog cfg 69 [u, v, I m, I n] (.bool (φ u v))) {x y : AV} (hx : (corsL b m n).find? (fun u => (corsL at_ n m).any (φ u)) = some x) (hy : (corsL at_ n m).find? (φ x) = some y)
    {xs ys : List Int} {d e : Int} {bs cs : List Bool} (ex : x = corA xs d bs) (ey : y = corA ys e cs) : PureOk Try.prog 41 [LLI a, LLI b] (.tup [shA xs d, shA ys e]) := by
  refine ⟨⟨_, Try.func41, rfl, by rfl⟩, fun w fz vs hf ha R hR => ?_⟩
  have hm1 := Ta.m1
  have hm4 := Ta.m4
  have hn1 := Ta.n1
  have hn4 := Ta.n4
  have hla := Ta.len
  have hl0 := Ta.row 0 (by omega)
  have H0 := ctx_nil (w := w) hf
  obtain ⟨c0, hc0⟩ : ∃ c : Ctx, c = { base := w.heap.size, nx := 0, loc := fun _ => .dead, fz := fz } := ⟨_, rfl⟩
  rw [← hc0] at H0
  have ha' : ArgsR w c0 [LLI a, LLI b] vs := by
    refine ⟨ha.1, fun j u hu => ?_⟩
    rw [hc0]; exact VR.base_any (ha.2 j u hu)
  have S0 := args_start ha' (n := 36) (Nat.le_of_ble_eq_true rfl)
  refine (callsIn_wide (n := 9)).1 ?_
  show CallsIn (rF none) 9 Try.prog 41 vs w R
  refine callsIn_of_wp_marks (fn := Try.f41) (c := Try.f41.body.getD .skip) Try.func41 rfl trivial ?_
  have hbase0 : c0.base = w.heap.size := by rw [hc0]
  have hfz0 : c0.fz = fz := by rw [hc0]
  have hntm : Try.f41.ntmps = 36 := rfl
  rw [hntm]
  obtain ⟨a0, ha0⟩ : ∃ a0 : Act, { tmps := vs ++ Array.replicate (36 - vs.size) Go.undef, defers := [] } = a0 := ⟨_, rfl⟩
  rw [ha0] at S0 ⊢
  generalize hQ : bodyPostM (rF none) 9 Try.prog Try.f41 R = Q
  simp only [Try.f41, Option.getD_some]
  have hz76 : ∀ g : Hp, allocB g (some (.agg [.nil, I 0])) = some (.ptr g.nx 0, g.alloc (.cells false false [.nil, I 0])) := fun g => allocB_agg _ rfl
  refine wpIn_seq (WP.in_ hext0 hlate0 35 rfl rfl (R := fun x st h => x = .normal ∧ st 1 = LLI b ∧ st 2 = .ptr 0 0 ∧ st 4 = .ptr 1 0 ∧ st 5 = .ptr 2 0 ∧ st 6 = .skp ∧ st 7 = .skp ∧ h = ((Hp.empty.alloc (.cells false false [LLI a])).alloc (.cells false false [.nil, I 0])).alloc (.cells false false [.nil, I 0])) ?_ H0 S0 ?_)
  · simp only [initSt2]
    simp (disch := first | (simp only [go_sem, gb0, eq_self]; done) | omega | (simp only [gl1, gl2]; omega)) only [go_sem, ↓reduceIte, Nat.reduceEqDiff, Nat.reduceAdd, Nat.reduceMul, Nat.reduceSub, Int.reduceToNat, Nat.reduceBEq, hz76, st0_skp]
  rintro x1 st h ⟨rfl, s1, s2, s4, s5, s6, s7, hh⟩ w1 c1 a1 E1 H1 S1 F1
  refine (wpIn_wide (n := 9)).2 (wp_scope_straight ((wpIn_wide (n := 9)).1 ?_))
  show Code.wpIn (rF none) 9 Try.prog _ _ a1 w1
  refine wpIn_seq (WP.wide hextS (cfg := cfgS) (by kernel_rfl) (R := fun x st h => x = .normal ∧ st 1 = LLI b ∧ st 2 = .ptr 0 0 ∧ st 4 = .ptr 1 0 ∧ st 5 = .ptr 2 0 ∧ st 6 = .ptr 3 0 ∧ st 7 = .ptr 4 0 ∧ h.nx = 5 ∧ h.bl 0 = some (.cells false false [LLI a]) ∧ h.bl 1 = some (.cells false false [.nil, I 0]) ∧
      h.bl 2 = some (.cells false false [.nil, I 0]) ∧ h.bl 3 = some (.cells false false [I m]) ∧ h.bl 4 = some (.cells false false [I n])) ?_ H1 S1 ?_)
  · rw [hh]
    simp (maxSteps := 3000000) (disch := first | (simp only [go_sem, gb0, eq_self]; done) | omega | (simp only [gl1, gl2]; omega)) only [go_sem, ↓reduceIte, Nat.reduceEqDiff, Nat.reduceAdd, Nat.reduceMul, Nat.reduceSub, Int.reduceToNat, Nat.reduceBEq, s1, s2, s4, s5, s6, s7, hla, hl0, List.filterMap_cons, List.filterMap_nil, List.contains_nil, List.contains_cons, Bool.not_false, Bool.not_true, Bool.or_true, Bool.true_or, List.nil_append, List.cons_append, Nat.reduceLT, decide_true, decide_false, List.drop_succ_cons]
  rintro x2 st h ⟨rfl, s1, s2, s4, s5, s6, s7, hnx, b0, b1, b2, b3, b4⟩ w2 c2 a2 E2 H2 S2
  refine wpIn_seq (WP.in_ hext0 hlate0 35 rfl rfl (R := fun x st h => x = .normal ∧ st 1 = LLI b ∧ st 2 = .ptr 0 0 ∧ st 4 = .ptr 1 0 ∧ st 5 = .ptr 2 0 ∧ st 6 = .ptr 3 0 ∧ st 7 = .ptr 4 0 ∧ st 8 = .ptr 5 0 ∧ st 9 = .ptr 6 0 ∧ SolveH a m n h) ?_ H2 S2 ?_)
  · simp (disch := first | (simp only [go_sem, gb0, eq_self]; done) | omega | (simp only [gl1, gl2]; omega)) only [go_sem, ↓reduceIte, Nat.reduceEqDiff, Nat.reduceAdd, Nat.reduceMul, Nat.reduceSub, Int.reduceToNat, Nat.reduceBEq, s1, s2, s4, s5, s6, s7, hnx, hz76, b0, b1, b2, b3, b4]
    exact ⟨by simp [upd, Hp.put, Hp.alloc, hnx], by simp [upd, Hp.put, Hp.alloc, hnx, b0], by simp [upd, Hp.put, Hp.alloc, hnx, b1], by simp [upd, Hp.put, Hp.alloc, hnx, b2], by simp [upd, Hp.put, Hp.alloc, hnx, b3], by simp [upd, Hp.put, Hp.alloc, hnx, b4], by simp [upd, Hp.put, Hp.alloc, hnx], by simp [upd, Hp.put, Hp.alloc, hnx]⟩
  rintro x3 st h ⟨rfl, s1, s2, s4, s5, s6, s7, s8, s9, SH⟩ w3 c3 a3 E3 H3 S3 F3
  refine wpIn_seq (wpIn_label ?_)
  have k68 := fun h h' K (t : List (List Int)) => ConW_any (h := h) (h' := h') (K := K) (f68_con t) rfl
  have hi68 : ∀ (h : Hp) (t : List (List Int)), importR h (.fn 78 [.pp [LLI t]]) = (.fn 78 [.pp [LLI t]], h) := fun _ _ => rfl
  refine wpIn_seq (wpIn_seq (WP.in_ hext0 hlate0 35 rfl rfl (R := fun x st h' => x = .normal ∧ st 2 = .ptr 0 0 ∧ st 4 = .ptr 1 0 ∧ st 5 = .ptr 2 0 ∧ st 6 = .ptr 3 0 ∧ st 7 = .ptr 4 0 ∧ st 8 = .ptr 5 0 ∧ st 9 = .ptr 6 0 ∧ st 19 = .fn 78 [.pp [LLI b]] ∧ h' = h) ?_ H3 S3 ?_))
  · simp (disch := first | (simp only [go_sem, gb0, eq_self]; done) | omega | (simp only [gl1, gl2]; omega)) only [go_sem, ↓reduceIte, Nat.reduceEqDiff, Nat.reduceAdd, Nat.reduceMul, Nat.reduceSub, Int.reduceToNat, Nat.reduceBEq, s1, s2, s4, s5, s6, s7, s8, s9, k68, hi68]
  rintro x4 st h4 ⟨rfl, s2, s4, s5, s6, s7, s8, s9, s19, rfl⟩ w4 c4 a4 E4 H4 S4 F4
  have Eall := (((E1.trans E2).trans E3).trans E4)
  clear E1 E2 E3 E4 H1 H2 H3 S1 S2 S3 H0 S0
  obtain ⟨pv, e19, V19⟩ := fn_inv1 (by have := S4.ev (.tmp 19); rwa [show ev st (.tmp 19) = st 19 from rfl, s19] at this)
  have hbase4 : c4.base = w.heap.size := Eall.base.trans hbase0
  have hfz4 : ∀ b, fz b → c4.fz b := fun b hb => Eall.fz b (by rw [hfz0]; exact hb)
  refine wpIn_block ?_
  refine range_lawN (m := 8) e19 enters78 (corners_seq Tb' 7 V19 H4.fzlt)
    (fun pre _ => ∀ u ∈ pre, (corsL at_ n m).any (φ u) = false)
    (fun cd _ W => cd = .exit 0 ∧ LeftS w4 c4 w4.heap.size (fun h => 6 < h.nx ∧ h.bl 1 = some (.cells false false [.nil, I 0]) ∧ h.bl 2 = some (.cells false false [.nil, I 0]) ∧ h.bl 5 = some (.cells false false [LI xs, I d]) ∧ h.bl 6 = some (.cells false false [LI ys, I e])) W)
    (fun _ _ _ h _ => h) (fun u hu => by cases hu) (fun cd s A o o' k hk ho l1 l2 q => ⟨q.1, q.2.turn H4 hk ho l1 l2⟩) ?round ?done ?stop
  case done =>
    intro D W hφ _ _ _
    have := List.mem_of_find?_eq_some hx
    have h1 := hφ x this
    have h2 := List.find?_some hx
    rw [h1] at h2; cases h2
  case stop =>
    intro D cd pre u W hpx hψ hD hK
    obtain ⟨rfl, c', h', E', H', hfD, n7, b1, b2, b5, b6⟩ := hψ
    have S' := (S4.mono E').marked [{ target := .collected D, args := #[] }]
    have hd : a4.defers = [] := S4.defers
    refine wpIn_exit ?_
    rw [hd]
    simp only [Exit.inBlock, if_true, Exit.then]
    have hl2 : ∀ (xs : List Int) (d : Int), loadC (Try.prog.underlying 76) (some 2) (some ([LI xs, I d], 0)) = some (.agg [LI xs, I d]) := fun xs d => by
      rw [und76, loadC_agg _ 2 rfl _ 0 (by simp)]; rfl
    have hl2' := hl2
    simp only [und76] at hl2'
    have hce : ∀ xs : List Int, (LI xs).isCell = true := fun _ => rfl
    have hci : ∀ x : Int, (I x).isCell = true := fun _ => rfl
    refine wpIn_seq (WP.inD hext0 hlate0 3 rfl (by kernel_rfl) (R := fun x st h => x = .normal ∧ st 4 = .ptr 1 0 ∧ st 5 = .ptr 2 0 ∧ h.bl 1 = some (.cells false false [LI xs, I d]) ∧ h.bl 2 = some (.cells false false [LI ys, I e])) ?_ H' S' ?_)
    · have n5 : 5 < h'.nx := by omega
      have n1 : 1 < h'.nx := by omega
      have n2 : 2 < h'.nx := by omega
      simp (maxSteps := 3000000) (disch := first | (simp only [go_sem, gb0, eq_self]; done) | omega | (simp only [gl1, gl2]; omega)) only [go_sem, ↓reduceIte, Nat.reduceEqDiff, Nat.reduceAdd, Nat.reduceMul, Nat.reduceSub, Int.reduceToNat, Nat.reduceBEq, s4, s5, s8, s9, b1, b2, b5, b6, hl2', hce, hci, n7, n5, n1, n2, List.filterMap_cons, List.filterMap_nil, List.contains_nil, List.contains_cons, Bool.not_false, Bool.not_true, Bool.or_true, Bool.true_or, List.nil_append, List.cons_append, Nat.reduceLT, decide_true, decide_false, List.drop_succ_cons]
    rintro x5 st6 h6 ⟨rfl, s4, s5, c1, c2⟩ W6 c6 a6 E6 H6 S6 F6
    refine wpIn_ret ?_
    simp only [Exit.noGoto]
    rw [← hQ]
    show LeavesInM (rF none) 9 Try.prog Try.f41 a6.tmps R a6.defers .returning W6
    rw [S6.df]
    have hK6 : W6.heap[D]? = some (.deferred (some [])) := (E6.keep D (by rw [hD]; exact hfD)).trans hK
    have hszD : w.heap.size ≤ D := by have := Eall.below.size; omega
    refine leave_ok (n := 36) (a := { a6 with defers := [] }) (v := .tup [.agg [LI xs, I d], .agg [LI ys, I e]]) (r := .tup [shA xs d, shA ys e]) (ow := false) (kn := false) (ts := [76, 76]) (Eall.trans (E'.trans E6)) H6 S6.sr hK6 (by rw [hbase0]; exact hszD) ?_ (fun b hp => by rw [hc0] at hp; exact hp.elim) ?_ ?_ ?_
    · intro b hb e
      rw [hfz0] at hb
      have := hf b hb
      omega
    · show resR Try.prog h6 st6 [.cell 4 76, .cell 5 76] = _
      simp only [resR, resL, resA_cell, s4, s5, resC_ptr, cellsAt, rd, c1, c2, lims_none, if_true, isz76, Option.bind_some, Option.map_some, hl2]
    · have hp : ∀ (xs : List Int) (d : Int), AV.pureL [LI xs, I d] = true := fun xs d => by
        have h1 : (LI xs).isPure = true := pure_L _
        simp only [AV.pureL, h1]; rfl
      have hs : ∀ (g : Hp) (xs : List Int) (d : Int), sealA g (.agg [LI xs, I d]) = some (.agg [LI xs, I d], g) := fun g xs d => sealA_agg _ (hp xs d)
      simp (disch := first | (simp only [go_sem, gb0, eq_self]; done) | omega | (simp only [gl1, gl2]; omega)) only [go_sem, ↓reduceIte, Nat.reduceEqDiff, Nat.reduceAdd, Nat.reduceMul, Nat.reduceSub, Int.reduceToNat, Nat.reduceBEq, hs]
      rfl
    · rw [hbase0, hfz0]; exact hR
  case round =>
    intro l pre u val W r hpx hBW hφ' hrep hl hle
    obtain ⟨us, ud, ubs, hu, hubs⟩ := corsL_form (mem_pre hpx)
    have humem := mem_pre hpx
    have hlW : l < W.heap.size := (Array.getElem?_eq_some_iff.1 hl).1
    have hact : ({ tmps := a4.tmps.setIfInBounds 20 val, defers := [] } : Act) = a4.put (some 20) val := by
      have : a4.defers = [] := S4.defers
      simp [Act.put, this]
    rw [hact]
    have hpl : (pre ++ [u]).length = pre.length + 1 := by simp
    have hcel : u.cells = LI us :: I ud :: ubs.flatMap (e1 AV.bool) := by rw [hu]; rfl
    have hcl10 : (LI us :: I ud :: ubs.flatMap (e1 AV.bool)).length = 10 := cb_len _ _ hubs
    have hst10 : ∀ (g : Hp) (id : Nat), storeC g id 0 10 (some (.cells false false (zc 0))) u.cells = some (.skp, g.put id (some (.cells false false (LI us :: I ud :: ubs.flatMap (e1 AV.bool))))) := fun g id => by rw [hcel]; exact store10 id _ _ rfl hcl10 (corA_all _ _ _)
    have hal4 : ∀ g : Hp, allocB g (izero Try.prog 103) = some (.ptr g.nx 0, g.alloc (.cells false false (zc 0))) := fun g => by
      rw [show izero Try.prog 103 = some (.agg (zc 0)) by kernel_rfl]; exact allocB_agg _ rfl
    simp only [izero103] at hal4
    have k53 := fun h K => ConW_pure (h := h) (K := K) hturn rfl
    cases hfit : (corsL at_ n m).any (φ u) with
    | false =>
      have Hv := viewF_start H4 hBW w4.heap.size
      have Sv := viewF_ok H4 hBW (n := w4.heap.size) S4
      have Vx : VR W (viewF c4 w4.heap.size W) u val := hrep _ (fun b hb => .inl (.inl hb)) (fun b h1 h2 => .inr ⟨h1, h2⟩)
      have Sp := Sv.put (d := some 20) (fun t ht => by cases ht; decide) Vx
      have v2 : (updO (viewSt h4 st) (some 20) u) 2 = .pp [LLI a] := by
        show viewV h4 (st 2) = _
        rw [s2]; simp only [viewV, SH.b0]
        have : AV.pureL [LLI a] = true := by simp only [AV.pureL, Bool.and_true]; exact pure_L _
        rw [if_pos this]; rfl
      have v6 : (updO (viewSt h4 st) (some 20) u) 6 = .pp [I m] := by
        show viewV h4 (st 6) = _
        rw [s6]; simp only [viewV, SH.b3]; rfl
      have v7 : (updO (viewSt h4 st) (some 20) u) 7 = .pp [I n] := by
        show viewV h4 (st 7) = _
        rw [s7]; simp only [viewV, SH.b4]; rfl
      have v20 : (updO (viewSt h4 st) (some 20) u) 20 = u := rfl
      generalize updO (viewSt h4 st) (some 20) u = sv at *
      generalize a4.put (some 20) val = av at *
      refine WP.in_ hext0 hlate0 3 rfl rfl (R := fun x st h' => x = .normal ∧ st 2 = .pp [LLI a] ∧ st 6 = .pp [I m] ∧ st 7 = .pp [I n] ∧ st 10 = .ptr 0 0 ∧ h'.nx = 1 ∧ h'.bl 0 = some (.cells false false (LI us :: I ud :: ubs.flatMap (e1 AV.bool)))) ?_ Hv Sp ?_
      · simp (disch := first | (simp only [go_sem, gb0, eq_self]; done) | omega | (simp only [gl1, gl2]; omega)) only [go_sem, ↓reduceIte, Nat.reduceEqDiff, Nat.reduceAdd, Nat.reduceMul, Nat.reduceSub, Int.reduceToNat, Nat.reduceBEq, v2, v6, v7, v20, hal4, hst10]
      rintro x5 st5 h5 ⟨rfl, q2, q6, q7, q10, hnx, b0⟩ W5 c5 a5 E5 H5 S5 F5
      have hb5 : Below W.heap.size W W5 := E5.below
      refine ⟨fun k _ hk2 => hb5.block k hk2, fun r' => ?_⟩
      have hl5 : W5.heap[l]? = some (.loop r) := (hb5.block l hlW).trans hl
      have hlt5 := (Array.getElem?_eq_some_iff.1 hl5).1
      have H6 := H5.turn (o' := .loop r') hl5 trivial trivial
      have S6 := S5.turn (o' := .loop r') hl5 trivial trivial
      have hbase5 : c5.base = W.heap.size := E5.base
      have hlo : (W5.putObj l (.loop r')).heap[l]? = some (.loop r') := World.putObj_heap_same hlt5
      refine wpIn_block ?_
      refine wpIn_seq (WP.in_ hext0 hlate0 3 rfl rfl (R := fun x st h' => x = .normal ∧ st 6 = .pp [I m] ∧ st 7 = .pp [I n] ∧ st 10 = .ptr 0 0 ∧ st 23 = .fn 78 [.pp [LLI at_]] ∧ h' = h5) ?_ H6 S6 ?_)
      · simp (disch := first | (simp only [go_sem, gb0, eq_self]; done) | omega | (simp only [gl1, gl2]; omega)) only [go_sem, ↓reduceIte, Nat.reduceEqDiff, Nat.reduceAdd, Nat.reduceMul, Nat.reduceSub, Int.reduceToNat, Nat.reduceBEq, q2, q6, q7, q10, k53, k68, hi68]
      rintro x7 st7 h7 ⟨rfl, q6, q7, q10, q23, rfl⟩ w7 c7 a7 E7 H7 S7 F7
      have hb7 := E7.below
      rw [hbase5] at hb7
      have hl7 : w7.heap[l]? = some (.loop r') := (hb7.block l hlW).trans hlo
      obtain ⟨pv2, e23, V23⟩ := fn_inv1 (by have := S7.ev (.tmp 23); rwa [show ev st7 (.tmp 23) = st7 23 from rfl, q23] at this)
      have hl10 := ld10
      simp only [und103] at hl10
      have v6' : viewV h7 (st7 6) = .pp [I m] := by rw [q6]; rfl
      have v7' : viewV h7 (st7 7) = .pp [I n] := by rw [q7]; rfl
      have v10' : viewV h7 (st7 10) = .pp (LI us :: I ud :: ubs.flatMap (e1 AV.bool)) := by
        rw [q10]; simp only [viewV, b0]; rw [if_pos (corA_pure _ _ _), List.drop_zero]
      have hinn : ∀ v ∈ corsL at_ n m, φ u v = false := fun v hv => by
        have := List.any_eq_false.1 hfit v hv
        simpa using this
      refine wpIn_block ?_
      refine range_lawI (m := 7) hl7 e23 enters78 (corners_seq Tt 6 V23 H7.fzlt) (fun _ _ => True) (fun _ _ _ => False) (fun _ _ _ _ _ => trivial) trivial (fun _ _ _ _ _ _ _ _ _ _ h => h) ?round2 ?done2 ?stop2
      case stop2 => intro c pre x W _ h; exact h.elim
      case done2 =>
        intro W9 _ hB9
        refine ⟨hb5, hb7.trans (below_of hB9 (by have := hb7.size; have := hb5.size; simp only [World.putObj, Array.size_setIfInBounds] at *; omega)), fun w hw => ?_⟩
        rcases List.mem_append.1 hw with hw | hw
        · exact hφ' w hw
        · rw [List.mem_singleton.1 hw]; exact hfit
      case round2 =>
        intro l2 pre2 v val2 W2 r2 hpx2 hBW2 _ hrep2 hl2 hle2
        have hfv := hinn v (mem_pre hpx2)
        have hvmem := mem_pre hpx2
        obtain ⟨zs, zd, zbs, hz, hzbs⟩ := corsL_form hvmem
        have hl2W : l2 < W2.heap.size := (Array.getElem?_eq_some_iff.1 hl2).1
        have hact2 : ({ tmps := a7.tmps.setIfInBounds 24 val2, defers := [] } : Act) = a7.put (some 24) val2 := by
          have : a7.defers = [] := S7.defers
          simp [Act.put, this]
        rw [hact2]
        have hcel2 : v.cells = LI zs :: I zd :: zbs.flatMap (e1 AV.bool) := by rw [hz]; rfl
        have hcl2 : (LI zs :: I zd :: zbs.flatMap (e1 AV.bool)).length = 10 := cb_len _ _ hzbs
        have hst2 : ∀ (g : Hp) (id : Nat), storeC g id 0 10 (some (.cells false false (zc 0))) v.cells = some (.skp, g.put id (some (.cells false false (LI zs :: I zd :: zbs.flatMap (e1 AV.bool))))) := fun g id => by rw [hcel2]; exact store10 id _ _ rfl hcl2 (corA_all _ _ _)
        have Hv2 := viewF_start H7 hBW2 w7.heap.size
        have Sv2 := viewF_ok H7 hBW2 (n := w7.heap.size) S7
        have Vx2 : VR W2 (viewF c7 w7.heap.size W2) v val2 := hrep2 _ (fun b hb => .inl (.inl hb)) (fun b h1 h2 => .inr ⟨h1, h2⟩)
        have Sp2 := Sv2.put (d := some 24) (fun t ht => by cases ht; decide) Vx2
        have u6 : (updO (viewSt h7 st7) (some 24) v) 6 = .pp [I m] := v6'
        have u7 : (updO (viewSt h7 st7) (some 24) v) 7 = .pp [I n] := v7'
        have u10 : (updO (viewSt h7 st7) (some 24) v) 10 = .pp (LI us :: I ud :: ubs.flatMap (e1 AV.bool)) := v10'
        have u24 : (updO (viewSt h7 st7) (some 24) v) 24 = v := rfl
        generalize updO (viewSt h7 st7) (some 24) v = sv2 at *
        generalize a7.put (some 24) val2 = av2 at *
        refine WP.in_ hext0 hlate0 3 rfl rfl (R := fun x st h' => x = .normal ∧ st 6 = .pp [I m] ∧ st 7 = .pp [I n] ∧ st 10 = .pp (LI us :: I ud :: ubs.flatMap (e1 AV.bool)) ∧ st 11 = .ptr 0 0 ∧ h'.bl 0 = some (.cells false false (LI zs :: I zd :: zbs.flatMap (e1 AV.bool)))) ?_ Hv2 Sp2 ?_
        · simp (disch := first | (simp only [go_sem, gb0, eq_self]; done) | omega | (simp only [gl1, gl2]; omega)) only [go_sem, ↓reduceIte, Nat.reduceEqDiff, Nat.reduceAdd, Nat.reduceMul, Nat.reduceSub, Int.reduceToNat, Nat.reduceBEq, u6, u7, u10, u24, hal4, hst2]
        rintro x8 st8 h8 ⟨rfl, u6, u7, u10, u11, z0⟩ W8 c8 a8 E8 H8 S8 F8
        have hb8 : Below W2.heap.size W2 W8 := E8.below
        refine ⟨fun k _ hk2 => hb8.block k hk2, fun r3 => ?_⟩
        have hl8 : W8.heap[l2]? = some (.loop r2) := (hb8.block l2 hl2W).trans hl2
        have H9 := H8.turn (o' := .loop r3) hl8 trivial trivial
        have S9 := S8.turn (o' := .loop r3) hl8 trivial trivial
        have hbase8 : c8.base = W2.heap.size := E8.base
        refine wpIn_block ?_
        have k69 := fun h h' K => ConW_num (h := h) (h' := h') (K := K) (hφ u humem v hvmem) rfl
        rw [hfv, hz, hu] at k69
        have hpz : ∀ (xs : List Int) (d : Int) (bs : List Bool) (g : Hp), sealA g (.agg (LI xs :: I d :: bs.flatMap (e1 AV.bool))) = some (.agg (LI xs :: I d :: bs.flatMap (e1 AV.bool)), g) := fun xs d bs g => sealA_agg _ (corA_pure _ _ _)
        have hlz := hl10 _ hcl2
        have hlu := hl10 _ hcl10
        simp only [corA] at k69
        refine WP.in_ hext0 hlate0 3 rfl (by kernel_rfl) (R := fun x st h' => x = .normal) ?_ H9 S9 ?_
        · simp (disch := first | (simp only [go_sem, gb0, eq_self]; done) | omega | (simp only [gl1, gl2]; omega)) only [go_sem, ↓reduceIte, Nat.reduceEqDiff, Nat.reduceAdd, Nat.reduceMul, Nat.reduceSub, Int.reduceToNat, Nat.reduceBEq, u6, u7, u10, u11, z0, hlz, hlu, hpz, k69]
        rintro x9 st9 h9 rfl W9 c9 a9 E9 H9' S9' F9
        have hb9 := E9.below
        rw [hbase8] at hb9
        refine ⟨hb8, hb9, ?_⟩
        trivial
    | true =>
      have hux : u = x := Option.some.inj ((find_pre (p := fun u => (corsL at_ n m).any (φ u)) hpx hφ' hfit).symm.trans hx)
      obtain ⟨f, hff⟩ : ∃ f : Nat → Prop, f = fun b => c4.fz b ∨ (w4.heap.size ≤ b ∧ b < W.heap.size) := ⟨_, rfl⟩
      have f1 : ∀ b, c4.fz b → f b := fun b hb => by rw [hff]; exact .inl hb
      have f2 : ∀ b, f b → c4.fz b ∨ (w4.heap.size ≤ b ∧ b < W.heap.size) := fun b hb => by rw [hff] at hb; exact hb
      have f3 : ∀ b, w4.heap.size ≤ b → b < W.heap.size → f b := fun b h1 h2 => by rw [hff]; exact .inr ⟨h1, h2⟩
      have E0 := Ext.grow H4 hBW f f1 f2
      have H5 := H4.grow hBW f f1 f2
      have Vx : VR W { c4 with fz := f } u val := hrep _ f1 f3
      have S5 := (S4.mono E0).put (d := some 20) (fun t ht => by cases ht; decide) Vx
      have t2 : (updO st (some 20) u) 2 = .ptr 0 0 := s2
      have t4 : (updO st (some 20) u) 4 = .ptr 1 0 := s4
      have t5 : (updO st (some 20) u) 5 = .ptr 2 0 := s5
      have t6 : (updO st (some 20) u) 6 = .ptr 3 0 := s6
      have t7 : (updO st (some 20) u) 7 = .ptr 4 0 := s7
      have t8 : (updO st (some 20) u) 8 = .ptr 5 0 := s8
      have t9 : (updO st (some 20) u) 9 = .ptr 6 0 := s9
      have t20 : (updO st (some 20) u) 20 = u := rfl
      generalize updO st (some 20) u = sv at *
      generalize a4.put (some 20) val = av at *
      have hnx := SH.nx
      refine WP.in_ hext0 hlate0 3 rfl rfl (R := fun x st h' => x = .normal ∧ st 2 = .ptr 0 0 ∧ st 4 = .ptr 1 0 ∧ st 5 = .ptr 2 0 ∧ st 6 = .ptr 3 0 ∧ st 7 = .ptr 4 0 ∧ st 8 = .ptr 5 0 ∧ st 9 = .ptr 6 0 ∧ st 10 = .ptr 7 0 ∧ h'.nx = 8 ∧ (∀ k, k < 7 → h'.bl k = h4.bl k) ∧ h'.bl 7 = some (.cells false false (LI us :: I ud :: ubs.flatMap (e1 AV.bool)))) ?_ H5 S5 ?_
      · simp (disch := first | (simp only [go_sem, gb0, eq_self]; done) | omega | (simp only [gl1, gl2]; omega)) only [go_sem, ↓reduceIte, Nat.reduceEqDiff, Nat.reduceAdd, Nat.reduceMul, Nat.reduceSub, Int.reduceToNat, Nat.reduceBEq, t2, t4, t5, t6, t7, t8, t9, t20, hnx, hal4, hst10]
        intro k hk
        rw [if_neg (by omega), if_neg (by omega)]
      rintro x5 st5 h5 ⟨rfl, s2, s4, s5, s6, s7, s8, s9, s10, hn5, hk5, b7⟩ W5 c5 a5 E5 H5 S5 F5
      have hkeep5 : ∀ k, w4.heap.size ≤ k → k < W.heap.size → W5.heap[k]? = W.heap[k]? := fun k h1 h2 => E5.keep k (f3 k h1 h2)
      refine ⟨hkeep5, fun r' => ?_⟩
      have hl5 : W5.heap[l]? = some (.loop r) := (hkeep5 l hle hlW).trans hl
      have hlt5 := (Array.getElem?_eq_some_iff.1 hl5).1
      have H6 := H5.turn (o' := .loop r') hl5 trivial trivial
      have S6 := S5.turn (o' := .loop r') hl5 trivial trivial
      have E06 := (E0.trans E5).turn (o' := .loop r') hl5 trivial trivial (Nat.le_trans H4.base hle) (fun b hb e => by have := H4.fzlt b hb; omega) (fun b hp e => by have := (H4.priv b hp).1; omega)
      have hlo : (W5.putObj l (.loop r')).heap[l]? = some (.loop r') := World.putObj_heap_same hlt5
      have hfz5 : ∀ b, w4.heap.size ≤ b → b < W.heap.size → c5.fz b := fun b h1 h2 => E5.fz b (f3 b h1 h2)
      have hsz5 : W.heap.size ≤ W5.heap.size := E5.below.size
      obtain ⟨W6, hW6⟩ : ∃ W6, W6 = W5.putObj l (.loop r') := ⟨_, rfl⟩
      rw [← hW6] at H6 S6 E06 hlo ⊢
      have hk6 : ∀ k, w4.heap.size ≤ k → k < W.heap.size → k ≠ l → W6.heap[k]? = W.heap[k]? := fun k h1 h2 hne => by rw [hW6, World.putObj_heap_other hne]; exact hkeep5 k h1 h2
      have hsz6 : W.heap.size ≤ W6.heap.size := by rw [hW6]; simp only [World.putObj, Array.size_setIfInBounds]; exact hsz5
      have b0 := (hk5 0 (by decide)).trans SH.b0
      refine wpIn_block ?_
      refine wpIn_seq (WP.in_ hext0 hlate0 3 rfl rfl (R := fun x st h' => x = .normal ∧ st 2 = .ptr 0 0 ∧ st 4 = .ptr 1 0 ∧ st 5 = .ptr 2 0 ∧ st 6 = .ptr 3 0 ∧ st 7 = .ptr 4 0 ∧ st 8 = .ptr 5 0 ∧ st 9 = .ptr 6 0 ∧ st 10 = .ptr 7 0 ∧ st 23 = .fn 78 [.pp [LLI at_]] ∧ h' = h5) ?_ H6 S6 ?_)
      · simp (disch := first | (simp only [go_sem, gb0, eq_self]; done) | omega | (simp only [gl1, gl2]; omega)) only [go_sem, ↓reduceIte, Nat.reduceEqDiff, Nat.reduceAdd, Nat.reduceMul, Nat.reduceSub, Int.reduceToNat, Nat.reduceBEq, s2, s4, s5, s6, s7, s8, s9, s10, b0, k53, k68, hi68]
      rintro x7 st7 h7 ⟨rfl, s2, s4, s5, s6, s7, s8, s9, s10, s23, rfl⟩ w7 c7 a7 E7 H7 S7 F7
      have hk7 : ∀ k, w4.heap.size ≤ k → k < W.heap.size → w7.heap[k]? = W6.heap[k]? := fun k h1 h2 => E7.keep k (hfz5 k h1 h2)
      have hl7 : w7.heap[l]? = some (.loop r') := (hk7 l hle hlW).trans hlo
      have hsz7 : W.heap.size ≤ w7.heap.size := Nat.le_trans hsz6 E7.below.size
      have hfz7 : ∀ b, w4.heap.size ≤ b → b < W.heap.size → c7.fz b := fun b h1 h2 => E7.fz b (hfz5 b h1 h2)
      obtain ⟨pv2, e23, V23⟩ := fn_inv1 (by have := S7.ev (.tmp 23); rwa [show ev st7 (.tmp 23) = st7 23 from rfl, s23] at this)
      have hl10 := ld10
      simp only [und103] at hl10
      have b3 := (hk5 3 (by decide)).trans SH.b3
      have b4 := (hk5 4 (by decide)).trans SH.b4
      have b5 := (hk5 5 (by decide)).trans SH.b5
      have b6 := (hk5 6 (by decide)).trans SH.b6
      have b1 := (hk5 1 (by decide)).trans SH.b1
      have b2 := (hk5 2 (by decide)).trans SH.b2
      have v6' : viewV h7 (st7 6) = .pp [I m] := by rw [s6]; simp only [viewV, b3]; rfl
      have v7' : viewV h7 (st7 7) = .pp [I n] := by rw [s7]; simp only [viewV, b4]; rfl
      have v10' : viewV h7 (st7 10) = .pp (LI us :: I ud :: ubs.flatMap (e1 AV.bool)) := by
        rw [s10]; simp only [viewV, b7]; rw [if_pos (corA_pure _ _ _), List.drop_zero]
      refine wpIn_block ?_
      refine range_lawI (m := 7) hl7 e23 enters78 (corners_seq Tt 6 V23 H7.fzlt) (fun pre _ => ∀ v ∈ pre, φ u v = false)
        (fun cd _ W9 => cd = .exit 0 ∧ LeftS w4 c4 w4.heap.size (fun h => 6 < h.nx ∧ h.bl 1 = some (.cells false false [.nil, I 0]) ∧ h.bl 2 = some (.cells false false [.nil, I 0]) ∧ h.bl 5 = some (.cells false false [LI xs, I d]) ∧ h.bl 6 = some (.cells false false [LI ys, I e])) W9 ∧
          (∀ k, w4.heap.size ≤ k → k < W.heap.size → W9.heap[k]? = W6.heap[k]?) ∧ W.heap.size ≤ W9.heap.size)
        (fun _ _ _ h _ => h) (fun v hv => by cases hv) (fun cd s A o o' k hk ho l1 l2 q => ⟨q.1, q.2.1.turn H4 (by omega) ho l1 l2, fun k2 h1 h2 => (World.putObj_heap_other (by omega)).trans (q.2.2.1 k2 h1 h2), by simp only [World.putObj, Array.size_setIfInBounds]; exact q.2.2.2⟩) ?round3 ?done3 ?stop3
      case stop3 =>
        rintro cd pre3 v3 W9 _ ⟨rfl, hL, hk9, hs9⟩
        refine wpIn_exit ?_
        simp only [Exit.inBlock, Nat.reduceEqDiff, if_false]
        exact ⟨(hk9 l hle hlW).trans hlo, hs9, fun k h1 h2 hne => (hk9 k h1 h2).trans (hk6 k h1 h2 hne), rfl, hL⟩
      case done3 =>
        intro W9 hall _
        exfalso
        obtain ⟨v, hv, hfv⟩ := List.any_eq_true.1 hfit
        rw [hall v hv] at hfv; cases hfv
      case round3 =>
        intro l2 pre2 v val2 W2 r2 hpx2 hBW2 hφ2 hrep2 hl2 hle2
        cases hfv : φ u v with
        | false =>
          have hvmem := mem_pre hpx2
          obtain ⟨zs, zd, zbs, hz, hzbs⟩ := corsL_form hvmem
          have hl2W : l2 < W2.heap.size := (Array.getElem?_eq_some_iff.1 hl2).1
          have hact2 : ({ tmps := a7.tmps.setIfInBounds 24 val2, defers := [] } : Act) = a7.put (some 24) val2 := by
            have : a7.defers = [] := S7.defers
            simp [Act.put, this]
          rw [hact2]
          have hcel2 : v.cells = LI zs :: I zd :: zbs.flatMap (e1 AV.bool) := by rw [hz]; rfl
          have hcl2 : (LI zs :: I zd :: zbs.flatMap (e1 AV.bool)).length = 10 := cb_len _ _ hzbs
          have hst2 : ∀ (g : Hp) (id : Nat), storeC g id 0 10 (some (.cells false false (zc 0))) v.cells = some (.skp, g.put id (some (.cells false false (LI zs :: I zd :: zbs.flatMap (e1 AV.bool))))) := fun g id => by rw [hcel2]; exact store10 id _ _ rfl hcl2 (corA_all _ _ _)
          have Hv2 := viewF_start H7 hBW2 w7.heap.size
          have Sv2 := viewF_ok H7 hBW2 (n := w7.heap.size) S7
          have Vx2 : VR W2 (viewF c7 w7.heap.size W2) v val2 := hrep2 _ (fun b hb => .inl (.inl hb)) (fun b h1 h2 => .inr ⟨h1, h2⟩)
          have Sp2 := Sv2.put (d := some 24) (fun t ht => by cases ht; decide) Vx2
          have u6 : (updO (viewSt h7 st7) (some 24) v) 6 = .pp [I m] := v6'
          have u7 : (updO (viewSt h7 st7) (some 24) v) 7 = .pp [I n] := v7'
          have u10 : (updO (viewSt h7 st7) (some 24) v) 10 = .pp (LI us :: I ud :: ubs.flatMap (e1 AV.bool)) := v10'
          have u24 : (updO (viewSt h7 st7) (some 24) v) 24 = v := rfl
          generalize updO (viewSt h7 st7) (some 24) v = sv2 at *
          generalize a7.put (some 24) val2 = av2 at *
          refine WP.in_ hext0 hlate0 3 rfl rfl (R := fun x st h' => x = .normal ∧ st 6 = .pp [I m] ∧ st 7 = .pp [I n] ∧ st 10 = .pp (LI us :: I ud :: ubs.flatMap (e1 AV.bool)) ∧ st 11 = .ptr 0 0 ∧ h'.bl 0 = some (.cells false false (LI zs :: I zd :: zbs.flatMap (e1 AV.bool)))) ?_ Hv2 Sp2 ?_
          · simp (disch := first | (simp only [go_sem, gb0, eq_self]; done) | omega | (simp only [gl1, gl2]; omega)) only [go_sem, ↓reduceIte, Nat.reduceEqDiff, Nat.reduceAdd, Nat.reduceMul, Nat.reduceSub, Int.reduceToNat, Nat.reduceBEq, u6, u7, u10, u24, hal4, hst2]
          rintro x8 st8 h8 ⟨rfl, u6, u7, u10, u11, z0⟩ W8 c8 a8 E8 H8 S8 F8
          have hb8 : Below W2.heap.size W2 W8 := E8.below
          refine ⟨fun k _ hk2 => hb8.block k hk2, fun r3 => ?_⟩
          have hl8 : W8.heap[l2]? = some (.loop r2) := (hb8.block l2 hl2W).trans hl2
          have H9 := H8.turn (o' := .loop r3) hl8 trivial trivial
          have S9 := S8.turn (o' := .loop r3) hl8 trivial trivial
          have hbase8 : c8.base = W2.heap.size := E8.base
          refine wpIn_block ?_
          have k69 := fun h h' K => ConW_num (h := h) (h' := h') (K := K) (hφ u humem v hvmem) rfl
          rw [hfv, hz, hu] at k69
          have hpz : ∀ (xs : List Int) (d : Int) (bs : List Bool) (g : Hp), sealA g (.agg (LI xs :: I d :: bs.flatMap (e1 AV.bool))) = some (.agg (LI xs :: I d :: bs.flatMap (e1 AV.bool)), g) := fun xs d bs g => sealA_agg _ (corA_pure _ _ _)
          have hlz := hl10 _ hcl2
          have hlu := hl10 _ hcl10
          simp only [corA] at k69
          refine WP.in_ hext0 hlate0 3 rfl (by kernel_rfl) (R := fun x st h' => x = .normal) ?_ H9 S9 ?_
          · simp (disch := first | (simp only [go_sem, gb0, eq_self]; done) | omega | (simp only [gl1, gl2]; omega)) only [go_sem, ↓reduceIte, Nat.reduceEqDiff, Nat.reduceAdd, Nat.reduceMul, Nat.reduceSub, Int.reduceToNat, Nat.reduceBEq, u6, u7, u10, u11, z0, hlz, hlu, hpz, k69]
          rintro x9 st9 h9 rfl W9 c9 a9 E9 H9' S9' F9
          have hb9 := E9.below
          rw [hbase8] at hb9
          refine ⟨hb8, hb9, ?_⟩
          intro v' hv'
          rcases List.mem_append.1 hv' with h | h
          · exact hφ2 v' h
          · rw [List.mem_singleton.1 h]; exact hfv
        | true =>
          have hvmem := mem_pre hpx2
          have hvy : v = y := by
            have h1 := find_pre (p := φ u) hpx2 hφ2 hfv
            rw [hux] at h1
            exact Option.some.inj (h1.symm.trans hy)
          obtain ⟨zs, zd, zbs, hz, hzbs⟩ := corsL_form hvmem
          have hl2W : l2 < W2.heap.size := (Array.getElem?_eq_some_iff.1 hl2).1
          have hact2 : ({ tmps := a7.tmps.setIfInBounds 24 val2, defers := [] } : Act) = a7.put (some 24) val2 := by
            have : a7.defers = [] := S7.defers
            simp [Act.put, this]
          rw [hact2]
          have hcel2 : v.cells = LI zs :: I zd :: zbs.flatMap (e1 AV.bool) := by rw [hz]; rfl
          have hcl2 : (LI zs :: I zd :: zbs.flatMap (e1 AV.bool)).length = 10 := cb_len _ _ hzbs
          have hst2 : ∀ (g : Hp) (id : Nat), storeC g id 0 10 (some (.cells false false (zc 0))) v.cells = some (.skp, g.put id (some (.cells false false (LI zs :: I zd :: zbs.flatMap (e1 AV.bool))))) := fun g id => by rw [hcel2]; exact store10 id _ _ rfl hcl2 (corA_all _ _ _)
          obtain ⟨q, hqq⟩ : ∃ q : Nat → Prop, q = fun b => c7.fz b ∨ (w7.heap.size ≤ b ∧ b < W2.heap.size) := ⟨_, rfl⟩
          have q1 : ∀ b, c7.fz b → q b := fun b hb => by rw [hqq]; exact .inl hb
          have q2 : ∀ b, q b → c7.fz b ∨ (w7.heap.size ≤ b ∧ b < W2.heap.size) := fun b hb => by rw [hqq] at hb; exact hb
          have q3 : ∀ b, w7.heap.size ≤ b → b < W2.heap.size → q b := fun b h1 h2 => by rw [hqq]; exact .inr ⟨h1, h2⟩
          have E8 := Ext.grow H7 hBW2 q q1 q2
          have H8 := H7.grow hBW2 q q1 q2
          have Vx2 : VR W2 { c7 with fz := q } v val2 := hrep2 _ q1 q3
          have S8 := (S7.mono E8).put (d := some 24) (fun t ht => by cases ht; decide) Vx2
          have t6 : (updO st7 (some 24) v) 6 = .ptr 3 0 := s6
          have t7 : (updO st7 (some 24) v) 7 = .ptr 4 0 := s7
          have t8 : (updO st7 (some 24) v) 8 = .ptr 5 0 := s8
          have t9 : (updO st7 (some 24) v) 9 = .ptr 6 0 := s9
          have t10 : (updO st7 (some 24) v) 10 = .ptr 7 0 := s10
          have t24 : (updO st7 (some 24) v) 24 = v := rfl
          generalize updO st7 (some 24) v = sv2 at *
          generalize a7.put (some 24) val2 = av2 at *
          refine WP.in_ hext0 hlate0 3 rfl rfl (R := fun x st h' => x = .normal ∧ st 6 = .ptr 3 0 ∧ st 7 = .ptr 4 0 ∧ st 8 = .ptr 5 0 ∧ st 9 = .ptr 6 0 ∧ st 10 = .ptr 7 0 ∧ st 11 = .ptr 8 0 ∧ h'.nx = 9 ∧ (∀ k, k < 8 → h'.bl k = h7.bl k) ∧ h'.bl 8 = some (.cells false false (LI zs :: I zd :: zbs.flatMap (e1 AV.bool)))) ?_ H8 S8 ?_
          · simp (disch := first | (simp only [go_sem, gb0, eq_self]; done) | omega | (simp only [gl1, gl2]; omega)) only [go_sem, ↓reduceIte, Nat.reduceEqDiff, Nat.reduceAdd, Nat.reduceMul, Nat.reduceSub, Int.reduceToNat, Nat.reduceBEq, t6, t7, t8, t9, t10, t24, hn5, hal4, hst2]
            intro k hk
            rw [if_neg (by omega), if_neg (by omega)]
          rintro x8 st8 h8 ⟨rfl, s6, s7, s8, s9, s10, s11, hn8, hk8, b8⟩ W8 c8 a8 E9 H9 S9 F9
          have hkeep8 : ∀ k, w7.heap.size ≤ k → k < W2.heap.size → W8.heap[k]? = W2.heap[k]? := fun k h1 h2 => E9.keep k (q3 k h1 h2)
          refine ⟨hkeep8, fun r3 => ?_⟩
          have hl8 : W8.heap[l2]? = some (.loop r2) := (hkeep8 l2 hle2 hl2W).trans hl2
          have hlt8 := (Array.getElem?_eq_some_iff.1 hl8).1
          have H10 := H9.turn (o' := .loop r3) hl8 trivial trivial
          have S10 := S9.turn (o' := .loop r3) hl8 trivial trivial
          have E48 := (((E06.trans E7).trans E8).trans E9).turn (o' := .loop r3) hl8 trivial trivial (Nat.le_trans H4.base (by omega)) (fun b hb e => by have := H4.fzlt b hb; omega) (fun b hp e => by have := (H4.priv b hp).1; omega)
          have hlo2 : (W8.putObj l2 (.loop r3)).heap[l2]? = some (.loop r3) := World.putObj_heap_same hlt8
          obtain ⟨W10, hW10⟩ : ∃ W10, W10 = W8.putObj l2 (.loop r3) := ⟨_, rfl⟩
          rw [← hW10] at H10 S10 E48 hlo2 ⊢
          have hk10 : ∀ k, w7.heap.size ≤ k → k < W2.heap.size → k ≠ l2 → W10.heap[k]? = W2.heap[k]? := fun k h1 h2 hne => by rw [hW10, World.putObj_heap_other hne]; exact hkeep8 k h1 h2
          have hfz8 : ∀ b, w7.heap.size ≤ b → b < W2.heap.size → c8.fz b := fun b h1 h2 => E9.fz b (q3 b h1 h2)
          have hfz8' : ∀ b, w4.heap.size ≤ b → b < W.heap.size → c8.fz b := fun b h1 h2 => E9.fz b (q1 b (hfz7 b h1 h2))
          have hk10' : ∀ k, w4.heap.size ≤ k → k < W.heap.size → W10.heap[k]? = W6.heap[k]? := fun k h1 h2 => by
            have e1 : W10.heap[k]? = W8.heap[k]? := by rw [hW10]; exact World.putObj_heap_other (by omega)
            have e2 : W8.heap[k]? = W2.heap[k]? := E9.keep k (q1 k (hfz7 k h1 h2))
            have e3 : W2.heap[k]? = w7.heap[k]? := hBW2.block k (by omega)
            rw [e1, e2, e3]; exact hk7 k h1 h2
          have hsz2 : W2.heap.size ≤ W8.heap.size := E9.below.size
          have hsz10 : W2.heap.size ≤ W10.heap.size := by rw [hW10]; simp only [World.putObj, Array.size_setIfInBounds]; exact hsz2
          have hszW2 := hBW2.size
          refine wpIn_block ?_
          have k69 := fun h h' K => ConW_num (h := h) (h' := h') (K := K) (hφ u humem v hvmem) rfl
          rw [hfv, hz, hu] at k69
          have hpz : ∀ (xs : List Int) (d : Int) (bs : List Bool) (g : Hp), sealA g (.agg (LI xs :: I d :: bs.flatMap (e1 AV.bool))) = some (.agg (LI xs :: I d :: bs.flatMap (e1 AV.bool)), g) := fun xs d bs g => sealA_agg _ (corA_pure _ _ _)
          have hlz := hl10 _ hcl2
          have hlu := hl10 _ hcl10
          simp only [corA] at k69
          have c7' := (hk8 7 (by decide)).trans b7
          have c3' := (hk8 3 (by decide)).trans b3
          have c4' := (hk8 4 (by decide)).trans b4
          have c5' := (hk8 5 (by decide)).trans b5
          have c6' := (hk8 6 (by decide)).trans b6
          have c1' := (hk8 1 (by decide)).trans b1
          have c2' := (hk8 2 (by decide)).trans b2
          have hl2' : ∀ (xs : List Int) (d : Int) (bs : List Bool), loadC (Try.prog.underlying 76) (some 2) (some (LI xs :: I d :: bs.flatMap (e1 AV.bool), 0)) = some (.agg [LI xs, I d]) := fun xs d bs => by
            rw [und76, loadC_agg _ 2 rfl _ 0 (by simp)]; rfl
          simp only [und76] at hl2'
          have hce : ∀ xs : List Int, (LI xs).isCell = true := fun _ => rfl
          have hci : ∀ x : Int, (I x).isCell = true := fun _ => rfl
          have eu : LI us = LI xs ∧ I ud = I d := by
            have : corA us ud ubs = corA xs d bs := by rw [← hu, ← ex, hux]
            simp only [corA, AV.agg.injEq, List.cons.injEq] at this
            exact ⟨this.1, this.2.1⟩
          have ev : LI zs = LI ys ∧ I zd = I e := by
            have : corA zs zd zbs = corA ys e cs := by rw [← hz, ← ey, hvy]
            simp only [corA, AV.agg.injEq, List.cons.injEq] at this
            exact ⟨this.1, this.2.1⟩
          have n5 : 5 < h8.nx := by omega
          have n6 : 6 < h8.nx := by omega
          have n7 : 7 < h8.nx := by omega
          have n8 : 8 < h8.nx := by omega
          refine WP.in_ hext0 hlate0 3 rfl (by kernel_rfl) (R := fun x st h => x = .exit 0 ∧ 6 < h.nx ∧ h.bl 1 = some (.cells false false [.nil, I 0]) ∧ h.bl 2 = some (.cells false false [.nil, I 0]) ∧ h.bl 5 = some (.cells false false [LI us, I ud]) ∧ h.bl 6 = some (.cells false false [LI zs, I zd])) ?_ H10 S10 ?_
          · simp (maxSteps := 3000000) (disch := first | (simp only [go_sem, gb0, eq_self]; done) | omega | (simp only [gl1, gl2]; omega)) only [go_sem, ↓reduceIte, Nat.reduceEqDiff, Nat.reduceAdd, Nat.reduceMul, Nat.reduceSub, Int.reduceToNat, Nat.reduceBEq, s6, s7, s8, s9, s10, s11, b8, c1', c2', c3', c4', c5', c6', c7', hlz, hlu, hpz, k69, hl2', hce, hci, n5, n6, n7, n8, List.filterMap_cons, List.filterMap_nil, List.contains_nil, List.contains_cons, Bool.not_false, Bool.not_true, Bool.or_true, Bool.true_or, List.nil_append, List.cons_append, Nat.reduceLT, decide_true, decide_false, List.drop_succ_cons]
          rintro x11 st11 h11 ⟨rfl, n11, d1, d2, d5, d6⟩ W11 c11 a11 E11 H11 S11 F11
          rw [eu.1, eu.2] at d5
          rw [ev.1, ev.2] at d6
          simp only [Exit.inBlock, Nat.reduceEqDiff, if_false]
          refine ⟨(E11.keep l2 (hfz8 l2 hle2 hl2W)).trans hlo2, Nat.le_trans hsz10 E11.below.size, fun k h1 h2 hne => (E11.keep k (hfz8 k h1 h2)).trans (hk10 k h1 h2 hne), rfl, ⟨c11, h11, E48.trans E11, H11, E11.fz _ (hfz8' _ (Nat.le_refl _) (by omega)), n11, d1, d2, d5, d6⟩,
            fun k h1 h2 => (E11.keep k (hfz8' k h1 h2)).trans (hk10' k h1 h2), Nat.le_trans hsz7 (Nat.le_trans hszW2 (Nat.le_trans hsz10 E11.below.size))⟩
end Go.Proofs.Ytcdpkgmkckfonaa

set_option linter.unusedVariables false
set_option linter.unusedSimpArgs false
set_option maxRecDepth 10000
namespace Go.Proofs.Ytcdpkgmkckfonaa
open Go Go.Am Go.RowKit

variable {h h' : Hp} {K : AV → Hp → Prop}

def boolV : AV → Bool
  | .bool b => b
  | _ => false
/-- The labels of a corner. -/
def bitsA : AV → List Bool
  | .agg (_ :: _ :: bs) => bs.map boolV
  | _ => []
theorem flat_bool : ∀ bs : List Bool, (bs.flatMap (e1 AV.bool)).map boolV = bs
  | [] => rfl
  | b :: bs => by rw [List.flatMap_cons, List.map_append, flat_bool bs]; rfl
theorem bitsA_cor (xs : List Int) (d : Int) (bs : List Bool) : bitsA (corA xs d bs) = bs := flat_bool bs
def phi (m n : Nat) (u v : AV) : Bool := fitsB (bitsA u) (bitsA v) m n
theorem f41_of {a b : List (List Int)} {m n : Nat} (Ta : Tb a m n) (Tb' : Tb b m n) {xs ys : List Int} {d e : Int} {bs cs : List Bool}
    (hx : (corsL b m n).find? (fun u => (corsL (turnL a m n) n m).any (phi m n u)) = some (corA xs d bs)) (hy : (corsL (turnL a m n) n m).find? (phi m n (corA xs d bs)) = some (corA ys e cs)) :
    PureOk Try.prog 41 [LLI a, LLI b] (.tup [shA xs d, shA ys e]) :=
  solve_pure Ta Tb' (f53_con Ta) (turnL_Tb Ta) (φ := phi m n) (fun u hu v hv => by
    obtain ⟨xs, d, bs, rfl, hb⟩ := corsL_form hu
    obtain ⟨ys, e, cs, rfl, hc⟩ := corsL_form hv
    have := f69_con Ta.m4 Ta.n4 (xs := xs) (ys := ys) (d := d) (e := e) hb hc
    rw [phi, bitsA_cor, bitsA_cor]; exact this) hx hy rfl rfl

def pA : List (List Int) := [[1, -1], [-1, 1]]
def pB : List (List Int) := [[-1, 1], [1, -1]]
theorem pA_tb : Tb pA 2 2 := tblB_Tb (a := pA) (by decide)
theorem pB_tb : Tb pB 2 2 := tblB_Tb (a := pB) (by decide)
def uX : AV := corA [2, 2] 4 [false, false, true, true, false, false, false, false]
theorem find_x : (corsL pB 2 2).find? (fun u => (corsL (turnL pA 2 2) 2 2).any (phi 2 2 u)) = some uX := by kernel_rfl
theorem find_y : (corsL (turnL pA 2 2) 2 2).find? (phi 2 2 uX) = some uX := by kernel_rfl
theorem f41_a : PureOk Try.prog 41 [LLI pA, LLI pB] (.tup [shA [2, 2] 4, shA [2, 2] 4]) := f41_of pA_tb pB_tb find_x find_y

def extK (f : FuncId) : List AV → Option AV
  | [.lst [[.lst [[.int .i64 1], [.int .i64 (-1)]]], [.lst [[.int .i64 (-1)], [.int .i64 1]]]], .lst [[.lst [[.int .i64 (-1)], [.int .i64 1]]], [.lst [[.int .i64 1], [.int .i64 (-1)]]]]] =>
    if f = 41 then some (.tup [shA [2, 2] 4, shA [2, 2] 4]) else none
  | _ => none
def cfgK : Cfg := { cfg with ext := extK }
@[go_sem] theorem cfgK_deep : cfgK.deep = false := by kernel_rfl
theorem hextK : ExtOk Try.prog cfgK := by
  intro f args r he
  have he : extK f args = some r := he
  unfold extK at he
  split at he
  · split at he
    · rename_i hf
      cases he
      subst hf
      exact ⟨f41_a, fun _ => rfl⟩
    · cases he
  · cases he
theorem f16_run : callP Try.prog cfgK 500 16 [] = some (.bool true) := by kernel_rfl
theorem f16_pure : PureOk Try.prog 16 [] (.bool true) := (sound hextK 500).2.2.1 _ _ _ f16_run
end Go.Proofs.Ytcdpkgmkckfonaa

set_option linter.unusedVariables false
set_option linter.unusedSimpArgs false
set_option maxRecDepth 10000
namespace Go.Proofs.Ytcdpkgmkckfonaa
open Go Go.Am

variable {h h' : Hp} {K : AV → Hp → Prop}

def SolveRel (args : List AV) (r : AV) : Prop := ∃ (a b : List (List Int)) (m n : Nat) (xs ys : List Int) (d e : Int) (bs cs : List Bool), Tb a m n ∧ Tb b m n ∧ args = [LLI a, LLI b] ∧
  (corsL b m n).find? (fun u => (corsL (turnL a m n) n m).any (phi m n u)) = some (corA xs d bs) ∧ (corsL (turnL a m n) n m).find? (phi m n (corA xs d bs)) = some (corA ys e cs) ∧ r = .tup [shA xs d, shA ys e]
theorem map_inj {α β : Type} {f : α → β} (hf : ∀ a b, f a = f b → a = b) : ∀ {xs ys : List α}, xs.map f = ys.map f → xs = ys
  | [], [], _ => rfl
  | [], _ :: _, h => by cases h
  | _ :: _, [], h => by cases h
  | x :: xs, y :: ys, h => by
    simp only [List.map_cons, List.cons.injEq] at h
    rw [hf _ _ h.1, map_inj hf h.2]
theorem L_inj {α : Type} {f : α → List AV} (hf : ∀ a b, f a = f b → a = b) {xs ys : List α} (h : L f xs = L f ys) : xs = ys := by
  injection h with h; exact map_inj hf h
theorem LI_inj {xs ys : List Int} (h : LI xs = LI ys) : xs = ys := L_inj (fun a b h => by injection h with h; injection h) h
theorem LLI_inj {xs ys : List (List Int)} (h : LLI xs = LLI ys) : xs = ys := L_inj (fun a b h => by injection h with h; exact LI_inj h) h
theorem corA_inj {xs ys : List Int} {d e : Int} {bs cs : List Bool} (h : corA xs d bs = corA ys e cs) : xs = ys ∧ d = e := by
  simp only [corA, AV.agg.injEq, List.cons.injEq] at h
  refine ⟨LI_inj h.1, ?_⟩
  have := h.2.1
  injection this
theorem Tb.same {a : List (List Int)} {m n m' n' : Nat} (T : Tb a m n) (T' : Tb a m' n') : m = m' ∧ n = n' := by
  have h1 := T.len
  have h2 := T'.len
  have h3 := T.row 0 (by have := T.m1; omega)
  have h4 := T'.row 0 (by have := T'.m1; omega)
  omega
theorem SolveRel.det {args : List AV} {r s : AV} (h : SolveRel args r) (k : SolveRel args s) : r = s := by
  obtain ⟨a, b, m, n, xs, ys, d, e, bs, cs, Ta, Tb', ea, hx, hy, rfl⟩ := h
  obtain ⟨a', b', m', n', xs', ys', d', e', bs', cs', Ta', Tb'', ea', hx', hy', rfl⟩ := k
  rw [ea] at ea'
  simp only [List.cons.injEq, and_true] at ea'
  have e1 := LLI_inj ea'.1
  have e2 := LLI_inj ea'.2
  subst e1; subst e2
  obtain ⟨rfl, rfl⟩ := Ta.same Ta'
  rw [hx] at hx'
  have hx' := Option.some.inj hx'
  rw [← hx', hy] at hy'
  have hy' := Option.some.inj hy'
  obtain ⟨rfl, rfl⟩ := corA_inj hx'
  obtain ⟨rfl, rfl⟩ := corA_inj hy'
  rfl
def baseX : List Nat := [12, 14, 15, 19, 20, 21, 22, 23, 24, 25, 26, 27, 29, 30, 32, 33, 34, 35, 36, 37, 38, 39, 40, 42, 43, 45, 46, 47, 48, 49, 50, 51, 52, 53, 54, 62, 63, 64, 65, 71]
open Classical in
noncomputable def extX (f : FuncId) (args : List AV) : Option AV :=
  if f = 41 then (if h : ∃ r, SolveRel args r then some h.choose else none)
  else if f = 16 then (if args = [] then some (.bool true) else none)
  else if baseX.contains f = true then (if h : ∃ r, Con Try.prog cfg f args r then some h.choose else none) else none
noncomputable def cfgX : Cfg := { cfg with ext := extX }
@[go_sem] theorem cfgX_deep : cfgX.deep = false := by kernel_rfl
theorem hext0' : ExtOk Try.prog cfg := fun _ _ _ h => by cases h
theorem shA_pure (xs : List Int) (d : Int) : (shA xs d).isPure = true := by
  show AV.pureL [LI xs, I d] = true
  simp only [AV.pureL, pure_L, Bool.and_true]; rfl
theorem hextX : ExtOk Try.prog cfgX := by
  intro f args r he
  have he : extX f args = some r := he
  unfold extX at he
  split at he
  · rename_i h41
    split at he
    · rename_i h
      cases he
      obtain ⟨a, b, m, n, xs, ys, d, e, bs, cs, Ta, Tb', ea, hx, hy, er⟩ := h.choose_spec
      subst h41
      rw [er, ea]
      exact ⟨f41_of Ta Tb' hx hy, fun _ => by
        show AV.pureL [shA xs d, shA ys e] = true
        simp only [AV.pureL, shA_pure, Bool.and_true]⟩
    · cases he
  split at he
  · rename_i h16
    split at he
    · rename_i hn
      cases he
      subst h16; subst hn
      exact ⟨f16_pure, fun _ => rfl⟩
    · cases he
  split at he
  · rename_i hbase
    split at he
    · rename_i h
      cases he
      obtain ⟨k, hk⟩ := h.choose_spec
      exact ⟨(sound hext0' k).2.2.1 _ _ _ hk, fun ho => callP_pure (P := Try.prog) (cfg := cfg) (fun _ _ _ h => by cases h) rfl hk⟩
    · cases he
  · cases he
@[go_sem] theorem shr41 : cfg.shared 41 = false := by kernel_rfl
@[go_sem] theorem cfgX_strict (a b : Nat) : cfgX.strict a b = cfg.strict a b := rfl
@[go_sem] theorem cfgX_shared (f : Nat) : cfgX.shared f = cfg.shared f := rfl
@[go_sem] theorem cfgX_own (f : Nat) : cfgX.own f = cfg.own f := rfl
@[go_sem] theorem cfgX_kn (f : Nat) : cfgX.keepNil f = cfg.keepNil f := rfl
@[go_sem] theorem cfgX_wr (a b : Nat) : cfgX.wr a b = cfg.wr a b := rfl
end Go.Proofs.Ytcdpkgmkckfonaa

set_option linter.unusedVariables false
set_option linter.unusedSimpArgs false
set_option maxRecDepth 10000
namespace Go.Proofs.Ytcdpkgmkckfonaa
open Go Go.Am

variable {h h' : Hp} {K : AV → Hp → Prop}

open Classical in
noncomputable def extW (f : FuncId) (args : List AV) : Option AV :=
  if f = 28 then (if h : ∃ r, Con Try.prog cfgP 28 args r then some h.choose else none) else extX f args
noncomputable def cfgW : Cfg := { cfg with ext := extW }
@[go_sem] theorem cfgW_deep : cfgW.deep = false := by kernel_rfl
theorem hextW : ExtOk Try.prog cfgW := by
  intro f args r he
  have he : extW f args = some r := he
  unfold extW at he
  split at he
  · rename_i hf
    split at he
    · rename_i h
      cases he
      subst hf
      obtain ⟨k, hk⟩ := h.choose_spec
      exact ⟨(sound hextP k).2.2.1 _ _ _ hk, fun ho => callP_pure (P := Try.prog) (cfg := cfgP) (fun f args r he ho => (hextP f args r he).2 ho) rfl hk⟩
    · cases he
  · exact hextX f args r he
theorem liftW {f : FuncId} {args : List AV} {r : AV} (h28 : f ≠ 28) (hb : (decide (f = 41) || (decide (f = 16) || !baseX.contains f)) = false) (hc : Con Try.prog cfg f args r) : Con Try.prog cfgW f args r := by
  simp only [Bool.or_eq_false_iff, decide_eq_false_iff_not, Bool.not_eq_false'] at hb
  refine ⟨1, ?_⟩
  have : extW f args = some r := by
    unfold extW extX
    have hex : ∃ r, Con Try.prog cfg f args r := ⟨r, hc⟩
    rw [if_neg h28, if_neg hb.1, if_neg hb.2.1, if_pos hb.2.2, dif_pos hex]
    obtain ⟨k, hk⟩ := hex.choose_spec
    obtain ⟨k', hk'⟩ := hc
    rw [callP_det hk hk']
  show (match extW f args with | some r => some r | none => _) = _
  rw [this]
theorem pureW {args : List AV} {r : AV} (hc : Con Try.prog cfgP 28 args r) : Con Try.prog cfgW 28 args r := by
  refine ⟨1, ?_⟩
  have : extW 28 args = some r := by
    unfold extW
    have hex : ∃ r, Con Try.prog cfgP 28 args r := ⟨r, hc⟩
    rw [if_pos rfl, dif_pos hex]
    obtain ⟨k, hk⟩ := hex.choose_spec
    obtain ⟨k', hk'⟩ := hc
    rw [callP_det hk hk']
  show (match extW 28 args with | some r => some r | none => _) = _
  rw [this]
theorem awakeW : Con Try.prog cfgW 16 [] (.bool true) := by
  refine ⟨1, ?_⟩
  have : cfgW.ext 16 [] = some (.bool true) := by
    show extW 16 [] = _
    unfold extW extX
    rw [if_neg (by decide), if_neg (by decide), if_pos rfl, if_pos rfl]
  simp only [callP, this]
@[go_sem] theorem kW16 : ConW Try.prog cfgW 16 h (some ([], h')) K = K (.bool true) h := ConW_num awakeW rfl
@[go_sem] theorem cfgW_strict (a b : Nat) : cfgW.strict a b = cfg.strict a b := rfl
@[go_sem] theorem cfgW_shared (f : Nat) : cfgW.shared f = cfg.shared f := rfl
@[go_sem] theorem cfgW_own (f : Nat) : cfgW.own f = cfg.own f := rfl
@[go_sem] theorem cfgW_kn (f : Nat) : cfgW.keepNil f = cfg.keepNil f := rfl
@[go_sem] theorem cfgW_wr (a b : Nat) : cfgW.wr a b = cfg.wr a b := rfl
theorem okW5 : funcOk cfgW Try.f5 (Try.f5.body.getD .skip) = true := by kernel_rfl
end Go.Proofs.Ytcdpkgmkckfonaa

set_option linter.unusedVariables false
set_option linter.unusedSimpArgs false
set_option maxRecDepth 10000
namespace Go.Proofs.Ytcdpkgmkckfonaa
open Go Go.Am

variable {h h' : Hp} {K : AV → Hp → Prop} {c : Cfg} {ops : Array Oper} {lim : Option Nat} {st : St}

noncomputable def ne55 (x y : AV) : Option AV := binA Try.prog .neq 55 x y
@[go_sem ↓ high] theorem W_ne55 (x y : Operand) (z) : StepW Try.prog c ops lim (.binOp .neq 55 x y z) st h K = getW (ne55 (ev st x) (ev st y)) h K := StepW_pureOp rfl rfl rfl rfl fun _ => rfl
@[go_sem] theorem ne55_I (a b c d : Int) : ne55 (.agg [I a, I b]) (.agg [I c, I d]) = some (.bool (!(decide (a = c) && decide (b = d)))) := by
  have : ne55 (.agg [I a, I b]) (.agg [I c, I d]) = some (.bool ((a == c && (b == d && true)) == false)) := by kernel_rfl
  rw [this]; simp [Bool.beq_eq_decide_eq]
theorem restF_len (a t : List (List Int)) : ∀ (f : Nat) (R C : List Nat), (restF a t f R C).1.length ≤ R.length ∧ (restF a t f R C).2.length ≤ C.length
  | 0, R, C => ⟨Nat.le_refl _, Nat.le_refl _⟩
  | f + 1, R, C => by
    rw [restF]
    split
    · rename_i i hi
      have h1 := restF_len a t f (cutAt R i) C
      have h2 := cutAt_len (findI_lt hi)
      exact ⟨by omega, h1.2⟩
    · split
      · rename_i j hj
        have h1 := restF_len a t f R (cutAt C j)
        have h2 := cutAt_len (findI_lt hj)
        exact ⟨h1.1, by omega⟩
      · exact ⟨Nat.le_refl _, Nat.le_refl _⟩
theorem f5_con (A B : List (List Int)) (hA : okLL A) (hB : okLL B) : Con Try.prog cfgW 5 [.agg [LLI A, LLI B]] (.bool true) := by
  have ml : maxLen = 9223372036854775807 := by decide
  have ha := tabM_ok A
  have hb := tabM_ok B
  have k1 := fun h h' K => show ConW Try.prog cfgW 15 h (some ([LLI A], h')) K = K (LLI (tabM A)) h' by rw [ConW_any (liftW (by decide) (by decide) (f15_con A hA)) rfl]; rfl
  have k2 := fun h h' K => show ConW Try.prog cfgW 15 h (some ([LLI B], h')) K = K (LLI (tabM B)) h' by rw [ConW_any (liftW (by decide) (by decide) (f15_con B hB)) rfl]; rfl
  generalize tabM A = a at *
  generalize tabM B = b at *
  have kk25 := fun h h' K => show ConW Try.prog cfgW 25 h (some ([LLI a, LLI b], h')) K = K (.tup [LP (purL a b), I (purE a b)]) h' by rw [ConW_any (liftW (by decide) (by decide) (f25_con a b ha hb)) rfl]; rfl
  have kk26 := fun h h' K => show ConW Try.prog cfgW 26 h (some ([LLI a, LLI b], h')) K = K (rstR a b) h' by
    rw [ConW_any (liftW (by decide) (by decide) (f26_con a b ha hb)) (by unfold rstR; split <;> rfl) (by unfold rstR; split <;> rfl)]
    have : importR h' (rstR a b) = (rstR a b, h') := by unfold rstR; split <;> rfl
    rw [this]
  have kk27 := fun h h' K => ConW_num (h := h) (h' := h') (K := K) (liftW (by decide) (by decide) (f27_con a b ha hb)) rfl
  have halA : ∀ (g : Hp) (x y : List (List Int)), allocB g (some (.agg [LLI x, LLI y])) = some (.ptr g.nx 0, g.alloc (.cells false false [LLI x, LLI y])) := fun g x y => allocB_agg _ rfl
  obtain ⟨l, hl⟩ : ∃ l, purL a b = l := ⟨_, rfl⟩
  obtain ⟨e, he⟩ : ∃ e, purE a b = e := ⟨_, rfl⟩
  rw [hl, he] at kk25
  obtain ⟨r1, r2, f, hr⟩ : ∃ r1 r2 f, rstR a b = .tup [LI r1, LI r2, I f] := by unfold rstR; split <;> exact ⟨_, _, _, rfl⟩
  rw [hr] at kk26
  refine Con_intro Try.func5 rfl okW5 (Nat.le_of_ble_eq_true rfl) rfl ?_
  simp only [Try.f5, Option.getD_some, initSt1]
  simp (disch := first | (simp only [go_sem, gb0, eq_self]; done) | omega | (simp only [gl1, gl2]; omega)) only [go_sem, ↓reduceIte, Nat.reduceEqDiff, Nat.reduceAdd, Nat.reduceMul, Nat.reduceSub, Int.reduceToNat, Nat.reduceBEq, halA, k1, k2, kk25, kk26, ↓stopY 4 false]
  refine WPy_go (fun st h => st 3 = LLI a ∧ st 4 = LLI b ∧ st 5 = LP l ∧ st 6 = I e ∧ st 7 = LI r1 ∧ st 8 = LI r2 ∧ st 9 = I f) ⟨by simp (disch := first | (simp only [go_sem, gb0, eq_self]; done) | omega | (simp only [gl1, gl2]; omega)) only [go_sem, ↓reduceIte, Nat.reduceEqDiff, Nat.reduceAdd, Nat.reduceMul, Nat.reduceSub, Int.reduceToNat, Nat.reduceBEq], by simp (disch := first | (simp only [go_sem, gb0, eq_self]; done) | omega | (simp only [gl1, gl2]; omega)) only [go_sem, ↓reduceIte, Nat.reduceEqDiff, Nat.reduceAdd, Nat.reduceMul, Nat.reduceSub, Int.reduceToNat, Nat.reduceBEq], by simp (disch := first | (simp only [go_sem, gb0, eq_self]; done) | omega | (simp only [gl1, gl2]; omega)) only [go_sem, ↓reduceIte, Nat.reduceEqDiff, Nat.reduceAdd, Nat.reduceMul, Nat.reduceSub, Int.reduceToNat, Nat.reduceBEq], by simp (disch := first | (simp only [go_sem, gb0, eq_self]; done) | omega | (simp only [gl1, gl2]; omega)) only [go_sem, ↓reduceIte, Nat.reduceEqDiff, Nat.reduceAdd, Nat.reduceMul, Nat.reduceSub, Int.reduceToNat, Nat.reduceBEq], by simp (disch := first | (simp only [go_sem, gb0, eq_self]; done) | omega | (simp only [gl1, gl2]; omega)) only [go_sem, ↓reduceIte, Nat.reduceEqDiff, Nat.reduceAdd, Nat.reduceMul, Nat.reduceSub, Int.reduceToNat, Nat.reduceBEq], by simp (disch := first | (simp only [go_sem, gb0, eq_self]; done) | omega | (simp only [gl1, gl2]; omega)) only [go_sem, ↓reduceIte, Nat.reduceEqDiff, Nat.reduceAdd, Nat.reduceMul, Nat.reduceSub, Int.reduceToNat, Nat.reduceBEq], by simp (disch := first | (simp only [go_sem, gb0, eq_self]; done) | omega | (simp only [gl1, gl2]; omega)) only [go_sem, ↓reduceIte, Nat.reduceEqDiff, Nat.reduceAdd, Nat.reduceMul, Nat.reduceSub, Int.reduceToNat, Nat.reduceBEq]⟩ ?_
  rintro st h ⟨s3, s4, s5, s6, s7, s8, s9⟩
  cases c1 : gamB a b with
  | false =>
    have e1 : l = [] := by rw [← hl, purL, c1]; rfl
    have e2 : e = 2 := by rw [← he, purE, c1]; rfl
    rw [rstR, c1] at hr
    simp only [Bool.false_eq_true, if_false, AV.tup.injEq, List.cons.injEq, and_true] at hr
    obtain ⟨h1, h2, h3⟩ := hr
    have e3 : r1 = [] := (LI_inj h1).symm
    have e4 : r2 = [] := (LI_inj h2).symm
    have e5 : f = 2 := by injection h3 with _ h3; exact h3.symm
    subst e1; subst e2; subst e3; subst e4; subst e5
    have z0 : ((0 : Nat) : Int) = 0 := rfl
    simp (disch := first | (simp only [go_sem, gb0, eq_self]; done) | omega | (simp only [gl1, gl2]; omega)) only [go_sem, ↓reduceIte, Nat.reduceEqDiff, Nat.reduceAdd, Nat.reduceMul, Nat.reduceSub, Int.reduceToNat, Nat.reduceBEq, s3, s4, s5, s6, s7, s8, s9, kk27, c1, z0, eq_self, decide_true, kW16]
  | true =>
  obtain ⟨Ta, Tb'⟩ := gamB_Tb c1
  have e1 : l = pAll a b a.length (nth a 0).length a.length := by rw [← hl, purL, c1]; rfl
  have e2 : e = 0 := by rw [← he, purE, c1]; rfl
  rw [rstR, c1] at hr
  simp only [if_true, AV.tup.injEq, List.cons.injEq, and_true] at hr
  obtain ⟨h1, h2, h3⟩ := hr
  have e3 := (LI_inj h1).symm
  have e4 := (LI_inj h2).symm
  have e5 : f = 0 := by injection h3 with _ h3; exact h3.symm
  have kk28 := fun h h' K => show ConW Try.prog cfgW 28 h (some ([LLI a, LLI b], h')) K = K (LP l) h' by
    rw [e1, ConW_any (pureW (f28_con Ta Tb')) rfl]; rfl
  have kk29 := fun h h' K => show ConW Try.prog cfgW 29 h (some ([LLI a, LLI b], h')) K = K (.tup [LI r1, LI r2]) h' by
    rw [e3, e4, ConW_any (liftW (by decide) (by decide) (f29_con Ta Tb')) rfl]; rfl
  have hll : l.length ≤ 16 := by
    have h4 := pAll_len a b a.length (nth a 0).length a.length
    have h5 : a.length * (nth a 0).length ≤ 4 * 4 := Nat.mul_le_mul Ta.m4 Ta.n4
    rw [e1]; omega
  have k30 : ∀ (x : List Int), x.length ≤ maxLen → ∀ h h' K, ConW Try.prog cfgW 30 h (some ([LI x, LI x], h')) K = K (.bool true) h := fun x hx h h' K => by
    have := ConW_num (h := h) (h' := h') (K := K) (liftW (by decide) (by decide) (f30_con x x hx hx)) rfl
    rw [decide_eq_true rfl] at this; exact this
  have hrl := restF_len a (turnL b a.length (nth a 0).length) (a.length + (nth a 0).length) (List.range a.length) (List.range (nth a 0).length)
  have hm4 := Ta.m4
  have hn4 := Ta.n4
  simp only [List.length_range] at hrl
  have hr1 : r1.length ≤ maxLen := by rw [e3, iL_len, restR]; omega
  have hr2 : r2.length ≤ maxLen := by rw [e4, iL_len, restR]; omega
  have k30a := k30 r1 hr1
  have k30b := k30 r2 hr2
  rw [e2] at s6
  rw [e5] at s9
  simp (disch := first | (simp only [go_sem, gb0, eq_self]; done) | omega | (simp only [gl1, gl2]; omega)) only [go_sem, ↓reduceIte, Nat.reduceEqDiff, Nat.reduceAdd, Nat.reduceMul, Nat.reduceSub, Int.reduceToNat, Nat.reduceBEq, s3, s4, s5, s6, s7, s8, s9, kk27, c1, kk28, eq_self, decide_true, Bool.not_true]
  refine WP_cut (fun st h => st 3 = LLI a ∧ st 4 = LLI b ∧ st 5 = LP l ∧ st 7 = LI r1 ∧ st 8 = LI r2 ∧ st 6 = I 0 ∧ st 9 = I 0 ∧ st 10 = LP l) ?_ ?_
  · refine WP_for 11 l.length (fun i st h => st 3 = LLI a ∧ st 4 = LLI b ∧ st 5 = LP l ∧ st 7 = LI r1 ∧ st 8 = LI r2 ∧ st 6 = I 0 ∧ st 9 = I 0 ∧ st 10 = LP l) (by simp (disch := first | (simp only [go_sem, gb0, eq_self]; done) | omega | (simp only [gl1, gl2]; omega)) only [go_sem, ↓reduceIte, Nat.reduceEqDiff, Nat.reduceAdd, Nat.reduceMul, Nat.reduceSub, Int.reduceToNat, Nat.reduceBEq]) ⟨by simp (disch := first | (simp only [go_sem, gb0, eq_self]; done) | omega | (simp only [gl1, gl2]; omega)) only [go_sem, ↓reduceIte, Nat.reduceEqDiff, Nat.reduceAdd, Nat.reduceMul, Nat.reduceSub, Int.reduceToNat, Nat.reduceBEq, s3, s4, s5, s6, s7, s8, s9], by simp (disch := first | (simp only [go_sem, gb0, eq_self]; done) | omega | (simp only [gl1, gl2]; omega)) only [go_sem, ↓reduceIte, Nat.reduceEqDiff, Nat.reduceAdd, Nat.reduceMul, Nat.reduceSub, Int.reduceToNat, Nat.reduceBEq, s3, s4, s5, s6, s7, s8, s9], by simp (disch := first | (simp only [go_sem, gb0, eq_self]; done) | omega | (simp only [gl1, gl2]; omega)) only [go_sem, ↓reduceIte, Nat.reduceEqDiff, Nat.reduceAdd, Nat.reduceMul, Nat.reduceSub, Int.reduceToNat, Nat.reduceBEq, s3, s4, s5, s6, s7, s8, s9], by simp (disch := first | (simp only [go_sem, gb0, eq_self]; done) | omega | (simp only [gl1, gl2]; omega)) only [go_sem, ↓reduceIte, Nat.reduceEqDiff, Nat.reduceAdd, Nat.reduceMul, Nat.reduceSub, Int.reduceToNat, Nat.reduceBEq, s3, s4, s5, s6, s7, s8, s9], by simp (disch := first | (simp only [go_sem, gb0, eq_self]; done) | omega | (simp only [gl1, gl2]; omega)) only [go_sem, ↓reduceIte, Nat.reduceEqDiff, Nat.reduceAdd, Nat.reduceMul, Nat.reduceSub, Int.reduceToNat, Nat.reduceBEq, s3, s4, s5, s6, s7, s8, s9], by simp (disch := first | (simp only [go_sem, gb0, eq_self]; done) | omega | (simp only [gl1, gl2]; omega)) only [go_sem, ↓reduceIte, Nat.reduceEqDiff, Nat.reduceAdd, Nat.reduceMul, Nat.reduceSub, Int.reduceToNat, Nat.reduceBEq, s3, s4, s5, s6, s7, s8, s9], by simp (disch := first | (simp only [go_sem, gb0, eq_self]; done) | omega | (simp only [gl1, gl2]; omega)) only [go_sem, ↓reduceIte, Nat.reduceEqDiff, Nat.reduceAdd, Nat.reduceMul, Nat.reduceSub, Int.reduceToNat, Nat.reduceBEq, s3, s4, s5, s6, s7, s8, s9], by simp (disch := first | (simp only [go_sem, gb0, eq_self]; done) | omega | (simp only [gl1, gl2]; omega)) only [go_sem, ↓reduceIte, Nat.reduceEqDiff, Nat.reduceAdd, Nat.reduceMul, Nat.reduceSub, Int.reduceToNat, Nat.reduceBEq, s3, s4, s5, s6, s7, s8, s9]⟩ ?_
    rintro i st h hi s11 ⟨s3, s4, s5, s7, s8, s6, s9, s10⟩
    by_cases hlt : i < l.length
    case neg =>
      simp (disch := first | (simp only [go_sem, gb0, eq_self]; done) | omega | (simp only [gl1, gl2]; omega)) only [go_sem, ↓reduceIte, Nat.reduceEqDiff, Nat.reduceAdd, Nat.reduceMul, Nat.reduceSub, Int.reduceToNat, Nat.reduceBEq, s3, s4, s5, s7, s8, s6, s9, s10, s11, hlt]
    have hlt' : (i : Int) < l.length := by omega
    simp (disch := first | (simp only [go_sem, gb0, eq_self]; done) | omega | (simp only [gl1, gl2]; omega)) only [go_sem, ↓reduceIte, Nat.reduceEqDiff, Nat.reduceAdd, Nat.reduceMul, Nat.reduceSub, Int.reduceToNat, Nat.reduceBEq, s3, s4, s5, s7, s8, s6, s9, s10, s11, hlt, hlt', eq_self, decide_true, Bool.not_true]
    rw [ForK_normal]
    exact ⟨hlt, by simp (disch := first | (simp only [go_sem, gb0, eq_self]; done) | omega | (simp only [gl1, gl2]; omega)) only [go_sem, ↓reduceIte, Nat.reduceEqDiff, Nat.reduceAdd, Nat.reduceMul, Nat.reduceSub, Int.reduceToNat, Nat.reduceBEq, s11], by simp (disch := first | (simp only [go_sem, gb0, eq_self]; done) | omega | (simp only [gl1, gl2]; omega)) only [go_sem, ↓reduceIte, Nat.reduceEqDiff, Nat.reduceAdd, Nat.reduceMul, Nat.reduceSub, Int.reduceToNat, Nat.reduceBEq, s3], by simp (disch := first | (simp only [go_sem, gb0, eq_self]; done) | omega | (simp only [gl1, gl2]; omega)) only [go_sem, ↓reduceIte, Nat.reduceEqDiff, Nat.reduceAdd, Nat.reduceMul, Nat.reduceSub, Int.reduceToNat, Nat.reduceBEq, s4], by simp (disch := first | (simp only [go_sem, gb0, eq_self]; done) | omega | (simp only [gl1, gl2]; omega)) only [go_sem, ↓reduceIte, Nat.reduceEqDiff, Nat.reduceAdd, Nat.reduceMul, Nat.reduceSub, Int.reduceToNat, Nat.reduceBEq, s5], by simp (disch := first | (simp only [go_sem, gb0, eq_self]; done) | omega | (simp only [gl1, gl2]; omega)) only [go_sem, ↓reduceIte, Nat.reduceEqDiff, Nat.reduceAdd, Nat.reduceMul, Nat.reduceSub, Int.reduceToNat, Nat.reduceBEq, s7], by simp (disch := first | (simp only [go_sem, gb0, eq_self]; done) | omega | (simp only [gl1, gl2]; omega)) only [go_sem, ↓reduceIte, Nat.reduceEqDiff, Nat.reduceAdd, Nat.reduceMul, Nat.reduceSub, Int.reduceToNat, Nat.reduceBEq, s8], by simp (disch := first | (simp only [go_sem, gb0, eq_self]; done) | omega | (simp only [gl1, gl2]; omega)) only [go_sem, ↓reduceIte, Nat.reduceEqDiff, Nat.reduceAdd, Nat.reduceMul, Nat.reduceSub, Int.reduceToNat, Nat.reduceBEq, s6], by simp (disch := first | (simp only [go_sem, gb0, eq_self]; done) | omega | (simp only [gl1, gl2]; omega)) only [go_sem, ↓reduceIte, Nat.reduceEqDiff, Nat.reduceAdd, Nat.reduceMul, Nat.reduceSub, Int.reduceToNat, Nat.reduceBEq, s9], by simp (disch := first | (simp only [go_sem, gb0, eq_self]; done) | omega | (simp only [gl1, gl2]; omega)) only [go_sem, ↓reduceIte, Nat.reduceEqDiff, Nat.reduceAdd, Nat.reduceMul, Nat.reduceSub, Int.reduceToNat, Nat.reduceBEq, s10]⟩
  rintro st h ⟨s3, s4, s5, s7, s8, s6, s9, s10⟩
  simp (disch := first | (simp only [go_sem, gb0, eq_self]; done) | omega | (simp only [gl1, gl2]; omega)) only [go_sem, ↓reduceIte, Nat.reduceEqDiff, Nat.reduceAdd, Nat.reduceMul, Nat.reduceSub, Int.reduceToNat, Nat.reduceBEq, s3, s4, s5, s7, s8, s6, s9, s10, kk29, k30a, k30b, eq_self, decide_true, kW16]
end Go.Proofs.Ytcdpkgmkckfonaa

set_option linter.unusedVariables false
set_option linter.unusedSimpArgs false
set_option maxRecDepth 10000
namespace Go.Proofs.Ytcdpkgmkckfonaa
open Go Go.Am Go.RowKit Go.ChangeShapes Go.WideShapes

theorem rdI : Rd Try.prog 3 Go.Am.ok64 (e1 I) := Rd.int und3
theorem rdLI : Rd Try.prog 31 (fun xs : List Int => (∀ x ∈ xs, Go.Am.ok64 x) ∧ xs.length ≤ maxLen) (e1 LI) := Rd.sl und31 (by kernel_rfl) rdI (fun _ => rfl) (by decide)
theorem rdLLI : Rd Try.prog 22 (fun xs : List (List Int) => (∀ x ∈ xs, (∀ y ∈ x, Go.Am.ok64 y) ∧ x.length ≤ maxLen) ∧ xs.length ≤ maxLen) (e1 LLI) := Rd.sl und22 (by kernel_rfl) rdLI (fun _ => rfl) (by decide)
theorem rdGm : Rd Try.prog 25 (fun x : List (List Int) × List (List Int) => ((∀ l ∈ x.1, (∀ y ∈ l, Go.Am.ok64 y) ∧ l.length ≤ maxLen) ∧ x.1.length ≤ maxLen) ∧ ((∀ l ∈ x.2, (∀ y ∈ l, Go.Am.ok64 y) ∧ l.length ≤ maxLen) ∧ x.2.length ≤ maxLen)) (fun x => [LLI x.1, LLI x.2]) :=
  Rd.two und25 rfl rfl (by kernel_rfl) (by kernel_rfl) (by kernel_rfl) rdLLI rdLLI (fun _ => rfl) (fun _ => rfl)
theorem okLL.of {a : List (List Int)} (h : (∀ l ∈ a, (∀ y ∈ l, Go.Am.ok64 y) ∧ l.length ≤ maxLen) ∧ a.length ≤ maxLen) : okLL a := ⟨h.2, fun l hl => (h.1 l hl).2⟩
end Go.Proofs.Ytcdpkgmkckfonaa
