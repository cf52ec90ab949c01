/-
  The last step of every statement: the second machine has come to true, so the call does, and its arguments read as they did.
-/
import Derived.Test.YtcdpkgmkckfonaaAmFor
set_option linter.unusedVariables false
set_option linter.unusedSimpArgs false
namespace Go.Am
open Go Go.RowKit Go.ChangeShapes Go.WideShapes

theorem law_calls {P : Program} {cfg : Cfg} (hext : ExtOk P cfg) {f : FuncId} {fn : Func} {s : ChangeSpec} {apart fresh handsOn again : Bool} {tb : TypeId}
    {H : Type} {enc : TypeId × Value → H} {W : World} {args : Array Value} {ds gs : List (DataW H)} {before : List MemPlace}
    (hl : laidOutB P = true) (hpar : (fn.params.toList.all fun t => P.readableRec t && decide (t < P.types.size)) = true)
    (hrt : fn.resultTypes = #[tb]) (htb : P.underlying tb = some .bool) (hvars : s.vars = []) (hs : (s.fn H ds).results = [.lit (.bool true)] ∧ (s.fn H ds).args = ds ∧ (s.fn H ds).vars = [])
    (hW : DataW.Whole enc P fn.params.toList s.vars apart W args.toList ds gs before)
    (hav : ∃ avs, ArgsR W (pctx fun b => b < W.heap.size) avs args ∧ Con P cfg f avs (.bool true)) :
    Calls P f args W fun e W' => ∃ v, e = .returned v ∧ s.post enc P fn apart fresh handsOn again W args v W' := by
  obtain ⟨avs, ha, k, hk⟩ := hav
  obtain ⟨_, hp⟩ := (sound hext k).2.2.1 _ _ _ hk
  refine hp W (fun b => b < W.heap.size) args (fun b hb => hb) ha _ fun x w' fz' hb _ _ hres => ?_
  refine ⟨x, rfl, ?_⟩
  have hx : x = .bool true := by
    rcases hres with ⟨vs, xs, bss, h, _⟩ | ⟨_, bs, hg⟩
    · cases h
    · rcases hg with ⟨sz, fl, h, _⟩ | ⟨_, hv, _⟩ | ⟨u, h, _⟩
      · cases h
      · cases hv; rfl
      · cases h
  subst hx
  exact post_true hl hpar hrt htb hvars hs hW hb

theorem args_one {w : World} {c : Ctx} {a : AV} {x : Value} (h : VR w c a x) : ArgsR w c [a] #[x] := ⟨rfl, fun j v hv => by
  match j, hv with
  | 0, hv => simp at hv; subst hv; exact h⟩
end Go.Am

