/-
  The laws' own configuration: what the functions below them answer is known.
-/
import Derived.Test.YtpkakapbepkfdaaL1N
import Derived.Test.YtpkakapbepkfdaaL1S
import Derived.Test.YtpkakapbepkfdaaAmEnd
set_option linter.unusedVariables false
set_option linter.unusedSimpArgs false
set_option maxRecDepth 10000
namespace Go.Proofs.Ytpkakapbepkfdaa
open Go Go.Am

variable {h h' : Hp} {K : AV → Hp → Prop}

def ChRel (args : List AV) (r : AV) : Prop := ∃ p t f g, okLL p ∧ okLL t ∧ f.length ≤ maxLen ∧ g.length ≤ maxLen ∧ args = [.agg [LLI p, LLI t], LP f, LP g] ∧ r = chanceR p t f g
def baseL : List Nat := [16, 17, 18, 19, 21, 24, 25, 30, 31, 32, 33, 34, 35, 36, 37, 38, 39, 40, 42, 43, 26, 27, 28, 29, 41, 44, 45]
open Classical in
noncomputable def extX (f : FuncId) (args : List AV) : Option AV :=
  if f = 23 then (if h : ∃ r, ChRel args r then some h.choose else if h : ∃ r, Con Try.prog cfg 23 args r then some h.choose else none)
  else if f = 20 then (if args = [] then some (.bool true) else none)
  else if baseL.contains f = true then (if h : ∃ r, Con Try.prog cfg f args r then some h.choose else none) else none
noncomputable def cfgX : Cfg := { cfg with ext := extX, own := fun f => f == 66, strict := fun a b => cfg.strict a b || (a == 1 && b == 12) }
theorem own_base : ∀ f ∈ baseL, cfg.own f = false := by decide

theorem map_inj {α β : Type} {f : α → β} (hf : ∀ a b, f a = f b → a = b) : ∀ {xs ys : List α}, xs.map f = ys.map f → xs = ys
  | [], [], _ => rfl
  | [], _ :: _, h => by cases h
  | _ :: _, [], h => by cases h
  | x :: xs, y :: ys, h => by
    simp only [List.map_cons, List.cons.injEq] at h
    rw [hf _ _ h.1, map_inj hf h.2]
theorem L_inj {α : Type} {f : α → List AV} (hf : ∀ a b, f a = f b → a = b) {xs ys : List α} (h : L f xs = L f ys) : xs = ys := by
  injection h with h; exact map_inj hf h
theorem LI_inj {xs ys : List Int} (h : LI xs = LI ys) : xs = ys := L_inj (fun a b h => by injection h with h; injection h) h
theorem LLI_inj {xs ys : List (List Int)} (h : LLI xs = LLI ys) : xs = ys := L_inj (fun a b h => by injection h with h; exact LI_inj h) h
theorem LP_inj {xs ys : List (Int × Int)} (h : LP xs = LP ys) : xs = ys := L_inj (fun a b h => by
  simp only [eP, List.cons.injEq, and_true] at h
  obtain ⟨h1, h2⟩ := h
  injection h1 with _ h1; injection h2 with _ h2
  exact Prod.ext h1 h2) h
theorem ChRel.det {args : List AV} {r s : AV} (h : ChRel args r) (k : ChRel args s) : r = s := by
  obtain ⟨p, t, f, g, _, _, _, _, e, rfl⟩ := h
  obtain ⟨p', t', f', g', _, _, _, _, e', rfl⟩ := k
  rw [e] at e'
  simp only [List.cons.injEq, AV.agg.injEq, and_true] at e'
  obtain ⟨⟨e1, e2⟩, e3, e4⟩ := e'
  rw [LLI_inj e1, LLI_inj e2, LP_inj e3, LP_inj e4]
theorem chance_pure (p t : List (List Int)) (f g : List (Int × Int)) : (chanceR p t f g).isPure = true := by
  unfold chanceR
  repeat' split
  all_goals rfl
theorem hextX : ExtOk Try.prog cfgX := by
  intro f args r he
  have he : extX f args = some r := he
  unfold extX at he
  split at he
  · rename_i h23
    split at he
    · rename_i h
      cases he
      obtain ⟨p, t, f', g, q1, q2, q3, q4, e, er⟩ := h.choose_spec
      subst h23
      rw [er]
      refine ⟨?_, fun _ => chance_pure _ _ _ _⟩
      rw [e]; exact f23_pure p t f' g q1 q2 q3 q4
    · split at he
      · rename_i h
        cases he
        obtain ⟨k, hk⟩ := h.choose_spec
        subst h23
        exact ⟨(sound hext0 k).2.2.1 _ _ _ hk, fun ho => callP_pure (P := Try.prog) (cfg := cfg) (fun _ _ _ h => by cases h) rfl hk⟩
      · cases he
  · split at he
    · rename_i h20
      split at he
      · rename_i hn
        cases he
        subst h20; subst hn
        exact ⟨f20_pure, fun _ => rfl⟩
      · cases he
    split at he
    · rename_i hbase
      split at he
      · rename_i h
        cases he
        obtain ⟨k, hk⟩ := h.choose_spec
        exact ⟨(sound hext0 k).2.2.1 _ _ _ hk, fun ho => callP_pure (P := Try.prog) (cfg := cfg) (fun _ _ _ h => by cases h) (own_base f (by simpa using hbase)) hk⟩
      · cases he
    · cases he
theorem lift {f : FuncId} {args : List AV} {r : AV} (hb : (decide (f = 23) || (decide (f = 20) || !baseL.contains f)) = false) (hc : Con Try.prog cfg f args r) : Con Try.prog cfgX f args r := by
  simp only [Bool.or_eq_false_iff, decide_eq_false_iff_not, Bool.not_eq_false'] at hb
  refine ⟨1, ?_⟩
  have : extX f args = some r := by
    unfold extX
    have hex : ∃ r, Con Try.prog cfg f args r := ⟨r, hc⟩
    rw [if_neg hb.1, if_neg hb.2.1, if_pos hb.2.2, dif_pos hex]
    obtain ⟨k, hk⟩ := hex.choose_spec
    obtain ⟨k', hk'⟩ := hc
    rw [callP_det hk hk']
  show (match extX f args with | some r => some r | none => _) = _
  rw [this]
theorem chance_con (p t : List (List Int)) (f g : List (Int × Int)) (hp : okLL p) (ht : okLL t) (hf : f.length ≤ maxLen) (hg : g.length ≤ maxLen) : Con Try.prog cfgX 23 [.agg [LLI p, LLI t], LP f, LP g] (chanceR p t f g) := by
  refine ⟨1, ?_⟩
  have hr : ChRel [.agg [LLI p, LLI t], LP f, LP g] (chanceR p t f g) := ⟨p, t, f, g, hp, ht, hf, hg, rfl, rfl⟩
  have : extX 23 [.agg [LLI p, LLI t], LP f, LP g] = some (chanceR p t f g) := by
    unfold extX
    have hex : ∃ r, ChRel [.agg [LLI p, LLI t], LP f, LP g] r := ⟨_, hr⟩
    rw [if_pos rfl, dif_pos hex, ChRel.det hex.choose_spec hr]
  show (match extX 23 [.agg [LLI p, LLI t], LP f, LP g] with | some r => some r | none => _) = _
  rw [this]

theorem chance_nil (f g : List (Int × Int)) : Con Try.prog cfgX 23 [.agg [.nil, .nil], LP f, LP g] (.tup [.agg [I 0, I 0], I 2]) := by
  have n20 : ¬ (2 : Int) = 0 := by decide
  have k46n : Con Try.prog cfg 46 [.agg [.nil, .nil]] (.tup [.agg [.nil, .nil, I 0], I 2]) := ⟨100, by kernel_rfl⟩
  have kn := fun h h' K => ConW_any (h := h) (h' := h') (K := K) k46n rfl
  have hi : ∀ h : Hp, importR h (.tup [.agg [.nil, .nil, I 0], I 2]) = (.tup [.agg [.nil, .nil, I 0], I 2], h) := fun _ => rfl
  have hs : ∀ h : Hp, sealA h (.agg [.nil, .nil]) = some (.agg [.nil, .nil], h) := fun _ => rfl
  have hc : Con Try.prog cfg 23 [.agg [.nil, .nil], LP f, LP g] (.tup [.agg [I 0, I 0], I 2]) := by
    refine Con_intro Try.func23 rfl ok23 (Nat.le_of_ble_eq_true rfl) rfl ?_
    simp only [Try.f23, Option.getD_some, initSt3]
    simp (disch := first | (simp only [go_sem, Bool.and_self, eq_self]; done) | omega | (simp only [List.length_cons, List.length_nil]; omega)) only [go_sem, ↓reduceIte, Nat.reduceEqDiff, Nat.reduceAdd, Nat.reduceMul, Nat.reduceSub, Int.reduceToNat, Nat.reduceBEq, List.size_toArray, List.length_cons, List.length_nil, Bool.false_and, Bool.true_and, Bool.or_false, Bool.false_or, Bool.and_false, Bool.and_true, kn, hi, n20, hs]
  refine ⟨1, ?_⟩
  have : cfgX.ext 23 [.agg [.nil, .nil], LP f, LP g] = some (.tup [.agg [I 0, I 0], I 2]) := by
    show extX 23 [.agg [.nil, .nil], LP f, LP g] = _
    unfold extX
    have hno : ¬ ∃ r, ChRel [.agg [.nil, .nil], LP f, LP g] r := by
      rintro ⟨r, p, t, f', g', _, _, _, _, e, _⟩
      simp only [List.cons.injEq, AV.agg.injEq] at e
      cases e.1.1
    have hex : ∃ r, Con Try.prog cfg 23 [.agg [.nil, .nil], LP f, LP g] r := ⟨_, hc⟩
    rw [if_pos rfl, dif_neg hno, dif_pos hex]
    obtain ⟨k, hk⟩ := hex.choose_spec
    obtain ⟨k', hk'⟩ := hc
    rw [callP_det hk hk']
  simp only [callP, this]
theorem awake_con : Con Try.prog cfgX 20 [] (.bool true) := by
  refine ⟨1, ?_⟩
  have : cfgX.ext 20 [] = some (.bool true) := by
    show extX 20 [] = _
    unfold extX
    rw [if_neg (by decide), if_pos rfl, if_pos rfl]
  simp only [callP, this]

@[go_sem] theorem cfgX_strict (a b : Nat) : cfgX.strict a b = (cfg.strict a b || (a == 1 && b == 12)) := rfl
@[go_sem] theorem shrX3 : cfgX.shared 3 = false := by kernel_rfl
@[go_sem] theorem shrX4 : cfgX.shared 4 = false := by kernel_rfl
@[go_sem] theorem shrX5 : cfgX.shared 5 = false := by kernel_rfl
@[go_sem] theorem shrX6 : cfgX.shared 6 = false := by kernel_rfl
@[go_sem] theorem shrX7 : cfgX.shared 7 = false := by kernel_rfl
@[go_sem] theorem shrX8 : cfgX.shared 8 = false := by kernel_rfl
@[go_sem] theorem shrX9 : cfgX.shared 9 = false := by kernel_rfl
@[go_sem] theorem shrX10 : cfgX.shared 10 = false := by kernel_rfl
@[go_sem] theorem shrX11 : cfgX.shared 11 = false := by kernel_rfl
@[go_sem] theorem shrX12 : cfgX.shared 12 = false := by kernel_rfl
@[go_sem] theorem shrX13 : cfgX.shared 13 = false := by kernel_rfl
@[go_sem] theorem shrX14 : cfgX.shared 14 = false := by kernel_rfl
@[go_sem] theorem shrX15 : cfgX.shared 15 = false := by kernel_rfl
@[go_sem] theorem shrX16 : cfgX.shared 16 = false := by kernel_rfl
@[go_sem] theorem shrX17 : cfgX.shared 17 = false := by kernel_rfl
@[go_sem] theorem shrX18 : cfgX.shared 18 = false := by kernel_rfl
@[go_sem] theorem shrX19 : cfgX.shared 19 = false := by kernel_rfl
@[go_sem] theorem shrX20 : cfgX.shared 20 = false := by kernel_rfl
@[go_sem] theorem shrX21 : cfgX.shared 21 = false := by kernel_rfl
@[go_sem] theorem shrX22 : cfgX.shared 22 = false := by kernel_rfl
@[go_sem] theorem shrX23 : cfgX.shared 23 = false := by kernel_rfl
@[go_sem] theorem shrX24 : cfgX.shared 24 = false := by kernel_rfl
@[go_sem] theorem shrX25 : cfgX.shared 25 = false := by kernel_rfl
@[go_sem] theorem shrX26 : cfgX.shared 26 = false := by kernel_rfl
@[go_sem] theorem shrX27 : cfgX.shared 27 = false := by kernel_rfl
@[go_sem] theorem shrX28 : cfgX.shared 28 = false := by kernel_rfl
@[go_sem] theorem shrX29 : cfgX.shared 29 = false := by kernel_rfl
@[go_sem] theorem shrX30 : cfgX.shared 30 = false := by kernel_rfl
@[go_sem] theorem shrX31 : cfgX.shared 31 = false := by kernel_rfl
@[go_sem] theorem shrX32 : cfgX.shared 32 = false := by kernel_rfl
@[go_sem] theorem shrX33 : cfgX.shared 33 = false := by kernel_rfl
@[go_sem] theorem shrX34 : cfgX.shared 34 = false := by kernel_rfl
@[go_sem] theorem shrX35 : cfgX.shared 35 = false := by kernel_rfl
@[go_sem] theorem shrX36 : cfgX.shared 36 = false := by kernel_rfl
@[go_sem] theorem shrX37 : cfgX.shared 37 = false := by kernel_rfl
@[go_sem] theorem shrX38 : cfgX.shared 38 = false := by kernel_rfl
@[go_sem] theorem shrX39 : cfgX.shared 39 = false := by kernel_rfl
@[go_sem] theorem shrX40 : cfgX.shared 40 = false := by kernel_rfl
@[go_sem] theorem shrX41 : cfgX.shared 41 = false := by kernel_rfl
@[go_sem] theorem shrX42 : cfgX.shared 42 = false := by kernel_rfl
@[go_sem] theorem shrX43 : cfgX.shared 43 = false := by kernel_rfl
@[go_sem] theorem shrX44 : cfgX.shared 44 = false := by kernel_rfl
@[go_sem] theorem shrX45 : cfgX.shared 45 = false := by kernel_rfl
theorem okX3 : funcOk cfgX Try.f3 (Try.f3.body.getD .skip) = true := by kernel_rfl
@[go_sem] theorem ownX3 : cfgX.own 3 = false := rfl
@[go_sem] theorem knX3 : cfgX.keepNil 3 = false := rfl
theorem okX5 : funcOk cfgX Try.f5 (Try.f5.body.getD .skip) = true := by kernel_rfl
@[go_sem] theorem ownX5 : cfgX.own 5 = false := rfl
@[go_sem] theorem knX5 : cfgX.keepNil 5 = false := rfl
theorem okX6 : funcOk cfgX Try.f6 (Try.f6.body.getD .skip) = true := by kernel_rfl
@[go_sem] theorem ownX6 : cfgX.own 6 = false := rfl
@[go_sem] theorem knX6 : cfgX.keepNil 6 = false := rfl
theorem okX8 : funcOk cfgX Try.f8 (Try.f8.body.getD .skip) = true := by kernel_rfl
@[go_sem] theorem ownX8 : cfgX.own 8 = false := rfl
@[go_sem] theorem knX8 : cfgX.keepNil 8 = false := rfl
theorem okX9 : funcOk cfgX Try.f9 (Try.f9.body.getD .skip) = true := by kernel_rfl
@[go_sem] theorem ownX9 : cfgX.own 9 = false := rfl
@[go_sem] theorem knX9 : cfgX.keepNil 9 = false := rfl
theorem okX10 : funcOk cfgX Try.f10 (Try.f10.body.getD .skip) = true := by kernel_rfl
@[go_sem] theorem ownX10 : cfgX.own 10 = false := rfl
@[go_sem] theorem knX10 : cfgX.keepNil 10 = false := rfl
theorem okX11 : funcOk cfgX Try.f11 (Try.f11.body.getD .skip) = true := by kernel_rfl
@[go_sem] theorem ownX11 : cfgX.own 11 = false := rfl
@[go_sem] theorem knX11 : cfgX.keepNil 11 = false := rfl
theorem okX12 : funcOk cfgX Try.f12 (Try.f12.body.getD .skip) = true := by kernel_rfl
@[go_sem] theorem ownX12 : cfgX.own 12 = false := rfl
@[go_sem] theorem knX12 : cfgX.keepNil 12 = false := rfl
theorem okX13 : funcOk cfgX Try.f13 (Try.f13.body.getD .skip) = true := by kernel_rfl
@[go_sem] theorem ownX13 : cfgX.own 13 = false := rfl
@[go_sem] theorem knX13 : cfgX.keepNil 13 = false := rfl
theorem okX14 : funcOk cfgX Try.f14 (Try.f14.body.getD .skip) = true := by kernel_rfl
@[go_sem] theorem ownX14 : cfgX.own 14 = false := rfl
@[go_sem] theorem knX14 : cfgX.keepNil 14 = false := rfl
theorem okX15 : funcOk cfgX Try.f15 (Try.f15.body.getD .skip) = true := by kernel_rfl
@[go_sem] theorem ownX15 : cfgX.own 15 = false := rfl
@[go_sem] theorem knX15 : cfgX.keepNil 15 = false := rfl
theorem okX4 : funcOk cfgX Try.f4 (Try.f4.body.getD .skip) = true := by kernel_rfl
@[go_sem] theorem ownX4 : cfgX.own 4 = false := rfl
@[go_sem] theorem knX4 : cfgX.keepNil 4 = false := rfl
theorem okX22 : funcOk cfgX Try.f22 (Try.f22.body.getD .skip) = true := by kernel_rfl
@[go_sem] theorem ownX22 : cfgX.own 22 = false := rfl
@[go_sem] theorem knX22 : cfgX.keepNil 22 = false := rfl
@[go_sem] theorem kX20 : ConW Try.prog cfgX 20 h (some ([], h')) K = K (.bool true) h := ConW_num awake_con rfl
end Go.Proofs.Ytpkakapbepkfdaa
