/-
  A range over a function whose body leaves what it finds alone, or leaves the loop by a return.
-/
import Derived.Test.YtcdpkgmkckfonaaAmRound
set_option linter.unusedVariables false
set_option linter.unusedSimpArgs false
namespace Go.Am
open Go Go.RowKit
variable {P : Program} {cfg : Cfg}

/-- What the model keeps of a range over a function. -/
def Loopy : Obj → Prop
  | .loop _ => True
  | .deferred _ => True
  | _ => False
theorem cell_turn {W : World} {l : Nat} {o o' : Obj} (hl : W.heap[l]? = some o) (ho : Loopy o) (ho' : Loopy o') (p : Addr) : (W.putObj l o').cell? p = W.cell? p := by
  have hlt := (Array.getElem?_eq_some_iff.1 hl).1
  unfold World.cell?
  by_cases e : p.block = l
  · rw [e, World.putObj_heap_same hlt, hl]
    cases o <;> cases o' <;> simp_all [Loopy]
  · rw [World.putObj_heap_other e]
theorem csize_turn {W : World} {l : Nat} {o o' : Obj} (hl : W.heap[l]? = some o) (ho : Loopy o) (ho' : Loopy o') (b : Nat) : csize (W.putObj l o') b = csize W b := by
  have hlt := (Array.getElem?_eq_some_iff.1 hl).1
  unfold csize
  by_cases e : b = l
  · rw [e, World.putObj_heap_same hlt, hl]
    cases o <;> cases o' <;> simp_all [Loopy]
  · rw [World.putObj_heap_other e]
theorem heap_turn {W : World} {l : Nat} {o o' o2 : Obj} (hl : W.heap[l]? = some o) (ho : Loopy o) {b : Nat} (hb : W.heap[b]? = some o2) (h2 : ¬ Loopy o2) : (W.putObj l o').heap[b]? = some o2 := by
  rw [World.putObj_heap_other]
  · exact hb
  · rintro rfl; rw [hl] at hb; cases hb; exact h2 ho
theorem VR.turn {W : World} {c : Ctx} {l : Nat} {o o' : Obj} (hl : W.heap[l]? = some o) (ho : Loopy o) (ho' : Loopy o') {v : AV} {x : Value} (h : VR W c v x) : VR (W.putObj l o') c v x := by
  induction h with
  | undef v => exact .undef v
  | skp => exact .skp
  | bool b => exact .bool b
  | int k n => exact .int k n
  | nil => exact .nil
  | lst0 => exact .lst0
  | lst xs a cap sz cv hcap hfz hu hcell hc hv ih => exact .lst xs a cap sz cv hcap hfz hu hcell (fun j hj => (cell_turn hl ho ho' _).trans (hc j hj)) ih
  | sl id off n sz v hid h => exact .sl id off n sz v hid (h.mono (.inl rfl) fun b row hb => csize_turn hl ho ho' b)
  | pp cs a cv hfz hcell hc hv ih => exact .pp cs a cv hfz hcell (fun j hj => (cell_turn hl ho ho' _).trans (hc j hj)) ih
  | ptr id off v hid h => exact .ptr id off v hid h
  | agg cs vs hl hcell hv ih => exact .agg cs vs hl hcell ih
  | tup cs vs hl hv ih => exact .tup cs vs hl ih
  | fn f cs vs hl hv ih => exact .fn f cs vs hl ih
  | nilfn => exact .nilfn
  | nilmp => exact .nilmp
  | mp id v hid h => exact .mp id v hid h
  | mv ks vs r ents clk hfz hb hl2 hk hkk hbo hv ih => exact .mv ks vs r ents clk hfz (heap_turn hl ho hb (fun h => h)) hl2 hk hkk hbo ih
theorem HR.turn {W : World} {c : Ctx} {h : Hp} {l : Nat} {o o' : Obj} (hl : W.heap[l]? = some o) (ho : Loopy o) (ho' : Loopy o') (H : HR W c h) : HR (W.putObj l o') c h := by
  have hsz : (W.putObj l o').heap.size = W.heap.size := by simp [World.putObj]
  refine ⟨H.nx, H.dead, H.hi, fun id b hb => ?_, H.inj, fun b hb => by rw [hsz]; exact H.fzlt b hb, by rw [hsz]; exact H.base, fun b hp => ⟨by rw [hsz]; exact (H.priv b hp).1, (H.priv b hp).2⟩⟩
  have hB := H.blk id b hb
  cases b with
  | cells fz row flat =>
    unfold BR at hB ⊢
    cases hloc : c.loc id with
    | dead => rw [hloc] at hB; exact hB
    | nilv => rw [hloc] at hB; exact hB
    | at_ n r =>
      rw [hloc] at hB
      obtain ⟨h1, h2, h3, cs, e, h4, h5⟩ := hB
      exact ⟨h1, h2, h3, cs, e, heap_turn hl ho h4 (fun h => h), h5.1, fun j x hx => ⟨(h5.2 j x hx).1, (h5.2 j x hx).2.turn hl ho ho'⟩⟩
  | mp fz es =>
    obtain ⟨n, h1, h2, h3, ents, clk, h4, h5, h6⟩ := hB
    exact ⟨n, h1, h2, h3, ents, clk, heap_turn hl ho h4 (fun h => h), ⟨h5.1, fun j k v hj => let ⟨x, q1, q2, q3⟩ := h5.2 j k v hj; ⟨x, q1, q2, q3.turn hl ho ho'⟩⟩, h6⟩
  | it =>
    obtain ⟨n, h1, h2, h3, m, s, sn, lt, h4⟩ := hB
    exact ⟨n, h1, h2, h3, m, s, sn, lt, heap_turn hl ho h4 (fun h => h)⟩
theorem Ext.turn {w W : World} {c c' : Ctx} {l : Nat} {o o' : Obj} (hl : W.heap[l]? = some o) (ho : Loopy o) (ho' : Loopy o') (E : Ext w c W c') (hb : c.base ≤ l) (hf : ∀ b, c.fz b → b ≠ l) (hpv : ∀ b, c.pv b → b ≠ l) : Ext w c (W.putObj l o') c' := by
  have hsz : (W.putObj l o').heap.size = W.heap.size := by simp [World.putObj]
  refine ⟨E.base, E.nx, ⟨E.below.os, E.below.tape, E.below.output, by rw [hsz]; exact E.below.size, fun k hk => ?_⟩, E.fz, fun b hfb => ?_, E.loc, fun id b row hid hloc => ?_, E.fzb, E.pv, fun b hp => by rw [World.putObj_heap_other (hpv b hp)]; exact E.pkeep b hp⟩
  · rw [World.putObj_heap_other (by omega)]; exact E.below.block k hk
  · rw [World.putObj_heap_other (hf b hfb)]; exact E.keep b hfb
  · rw [csize_turn hl ho ho']; exact E.size id b row hid hloc
theorem SR.turn {W : World} {c : Ctx} {n : Nat} {st : St} {a : Act} {l : Nat} {o o' : Obj} (hl : W.heap[l]? = some o) (ho : Loopy o) (ho' : Loopy o') (S : SR n W c st a) : SR n (W.putObj l o') c st a :=
  ⟨S.defers, S.size, fun i => (S.val i).turn hl ho ho'⟩

/-! ### The statement -/
theorem Below.mono' {A B : Nat} {w w' : World} (h : Below A w w') (hle : B ≤ A) : Below B w w' := ⟨h.os, h.tape, h.output, h.size, fun k hk => h.block k (by omega)⟩

/-! ### A round that goes on: the function's own blocks are read alone -/
def viewV (h : Hp) : AV → AV
  | .ptr id off => match h.bl id with | some (.cells _ _ flat) => if AV.pureL flat then .pp (flat.drop off) else .undef | _ => .undef
  | v => if v.isPure then v else .undef
def viewSt (h : Hp) (st : St) : St := fun i => viewV h (st i)
def viewC (c : Ctx) (W : World) : Ctx := { base := W.heap.size, nx := 0, loc := fun _ => .dead, fz := fun b => c.fz b ∨ ∃ id r, c.loc id = .at_ b r }
theorem viewC_lt {w : World} {c : Ctx} {h : Hp} (H : HR w c h) (W : World) : ∀ b, (viewC c W).fz b → b < w.heap.size := by
  rintro b (hb | ⟨id, r, hl⟩)
  · exact H.fzlt b hb
  · obtain ⟨_, _, _, _, h2, _⟩ := H.at hl
    exact h2
theorem viewV_ok {w W : World} {c : Ctx} {h : Hp} (H : HR w c h) (hB : Below w.heap.size w W) {v : AV} {x : Value} (hv : VR w c v x) : VR W (viewC c W) (viewV h v) x := by
  have pure : ∀ {v : AV} {x : Value}, VR w c v x → v.isPure = true → VR W (viewC c W) v x := fun hv hp =>
    hv.pure_mono ⟨fun b hb => .inl hb, fun b hb => hB.block b (H.fzlt b hb)⟩ hp
  cases v
  case ptr id off =>
    show VR W (viewC c W) (match h.bl id with | some (.cells _ _ flat) => if AV.pureL flat then .pp (flat.drop off) else .undef | _ => .undef) x
    cases hb : h.bl id with
    | none => exact .undef _
    | some b =>
      cases b with
      | mp fz es => exact .undef _
      | it => exact .undef _
      | cells fz row flat =>
        show VR W (viewC c W) (if AV.pureL flat then .pp (flat.drop off) else .undef) x
        split
        case isFalse => exact .undef _
        case isTrue hp =>
        have hBR := H.blk id _ hb
        cases hv with
        | ptr _ _ _ hid hpt =>
          obtain ⟨a, rfl, ha⟩ := hpt
          cases hloc : c.loc id with
          | dead => rw [hloc] at hBR; exact hBR.elim
          | nilv =>
            rw [hloc] at hBR
            obtain ⟨rfl, _⟩ := hBR
            exact .pp _ _ (fun _ => Go.undef) (fun hn => by simp at hn) (by simp) (by simp) (by simp)
          | at_ b r =>
            rw [hloc] at hBR
            obtain ⟨h1, h2, h3, cs, e, h4, h5⟩ := hBR
            have ha' := ha b r hloc
            subst ha'
            have hlt := (Array.getElem?_eq_some_iff.1 h4).1
            refine .pp _ _ (fun j => cs.getD (off + j) Go.undef) (fun _ => .inr ⟨id, r, hloc⟩) (fun y hy => ?_) (fun j hj => ?_) (fun j y hy => ?_)
            · obtain ⟨j, hj⟩ := List.getElem?_of_mem (List.mem_of_mem_drop hy)
              exact (h5.2 j y hj).1
            · rw [add_lit, hB.cell (p := ⟨b, off + j, none⟩) hlt]
              have hlen := h5.1
              rw [List.length_drop] at hj
              unfold World.cell?
              have hjc : off + j < cs.size := by omega
              simp [h4, hjc]
            · rw [List.getElem?_drop] at hy
              exact pure (h5.2 (off + j) y hy).2 (pureL_get hp hy)
  all_goals
    simp only [viewV]
    split
    · rename_i hp; exact pure hv hp
    · exact .undef _
theorem viewSt_ok {w W : World} {c : Ctx} {h : Hp} (H : HR w c h) (hB : Below w.heap.size w W) {n : Nat} {st : St} {a : Act} (S : SR n w c st a) : SR n W (viewC c W) (viewSt h st) a :=
  ⟨S.defers, S.size, fun i => viewV_ok H hB (S.val i)⟩
theorem view_start {w W : World} {c : Ctx} {h : Hp} (H : HR w c h) (hB : Below w.heap.size w W) : HR W (viewC c W) Hp.empty :=
  ctx_nil (w := W) (fz := (viewC c W).fz) fun b hb => Nat.lt_of_lt_of_le (viewC_lt H W b hb) hB.size

/-- What a leaving round leaves. -/
def LeftR (w : World) (c : Ctx) (R : Hp → Prop) (W : World) : Prop := ∃ c' h', Ext w c W c' ∧ HR W c' h' ∧ R h'
theorem LeftR.turn {w W : World} {c : Ctx} {h : Hp} (H : HR w c h) {R : Hp → Prop} {l : Nat} {o o' : Obj} (hle : w.heap.size ≤ l) (hl : W.heap[l]? = some o) (ho : Loopy o) (ho' : Loopy o') (q : LeftR w c R W) : LeftR w c R (W.putObj l o') := by
  obtain ⟨c', h', E, H', r⟩ := q
  exact ⟨c', h', E.turn hl ho ho' (Nat.le_trans H.base hle) (fun b hb e => by have := H.fzlt b hb; omega) (fun b hp e => by have := (H.priv b hp).1; omega), H'.turn hl ho ho', r⟩

/-- What the machine shows of a part of the code. -/
theorem WP.in_ (hext : ExtOk P cfg) (hlate : ∀ id n, cfg.late id n = []) (t : Nat) {c : Code} {n : Nat} (hc : calm t c = true) (ho : codeOk cfg n c = true) {st : St} {h : Hp} {R : Exit → St → Hp → Prop} (hw : WP P cfg c st h R)
    {ro : Option Nat} {m : Nat} {w : World} {ctx : Ctx} {a : Act} (H : HR w ctx h) (S : SR n w ctx st a) {Q : Exit → Act → World → Prop}
    (hQ : ∀ x st' h', R x st' h' → ∀ w' c' a', Ext w ctx w' c' → HR w' c' h' → SR n w' c' st' a' → Frz t a a' → Q x a' w') : c.wpIn (rF ro) m P Q a w := by
  obtain ⟨k, x, st', h', e, r⟩ := hw
  exact ((sound_in hext hlate t ro m k).1 n c _ _ _ _ _ hc ho e).2 H S (hQ x st' h' r)

/-- A call of what stands for the body. -/
theorem call_yield {l : Nat} {args : Array Value} {W : World} {fn : FuncId} {tmps : Array Value} {assign body : Code} (hy : (Instr.yield l args).run P W = .ok (.round l fn tmps assign body) W)
    {ρ : Operand → Value} {o : Oper} {f : Operand} {xs : Array Operand} {ts : Array TypeId} (ho : o.op = .call ⟨.value f, xs, ts⟩) (hf : ρ f = .func (.yield l) #[] #[]) (hx : xs.map ρ = args) :
    (execOp ρ o).run P W = .ok (.round l fn tmps assign body) W := by
  subst hx
  simp only [execOp, ho, resolve, hf, Deferred.ofValue, Sem.run_bind, Sem.run_pure, Result.andThen_ok, invoke]
  simpa using hy

/-- A function with such a loop is left. -/
theorem leave_ok {fn : Func} {n m : Nat} {w W : World} {c c' : Ctx} {h' : Hp} {st : St} {a : Act} {D : Nat} {v r : AV} {ow kn : Bool} {ts : List TypeId} {R : Ending → World → Prop}
    (E : Ext w c W c') (H : HR W c' h') (S : SR n W c' st a) (hK : W.heap[D]? = some (.deferred (some []))) (hD : c.base ≤ D) (hf : ∀ b, c.fz b → b ≠ D) (hpv : ∀ b, c.pv b → b ≠ D)
    (hr : resR P h' st fn.results.toList = some v) (he : exportR P ow kn ts h' v = some r)
    (hR : ∀ x w' fz', Below c.base w w' → (∀ b, c.fz b → fz' b) → (∀ b, fz' b → c.fz b ∨ (c.base ≤ b ∧ b < w'.heap.size)) → ResOk w' c.base fz' r x → R (.returned x) w') :
    LeavesInM (rF none) m P fn a.tmps R [{ target := .collected D, args := #[] }] .returning W := by
  refine ⟨by simp, .inl ⟨_, _, rfl, run_takeDeferred hK, ?_⟩⟩
  have E2 := E.turn (o := .deferred (some [])) (o' := .deferred none) hK trivial trivial hD hf hpv
  have H2 := H.turn (o' := .deferred none) hK trivial trivial
  have S2 := S.turn (o' := .deferred none) hK trivial trivial
  obtain ⟨x, h1, h2⟩ := resR_ok (P := P) (fn := fn) H2 S2 hr
  refine ⟨x, h1, ?_⟩
  obtain ⟨c2, h3, E3, H3, hres⟩ := exportR_ok (P := P) H2 h2 he
  have hb : c'.base = c.base := E.base
  rw [hb] at hres
  exact hR x _ c2.fz E2.below (fun b hb => E3.fz b (E2.fz b hb)) (fun b hfb => by
    have hlt : b < (W.putObj D (.deferred none)).heap.size := by
      have := H3.fzlt b hfb
      exact this
    rcases (E2.trans E3).fzb b hfb with h | h
    · exact .inl h
    · exact .inr ⟨h, hlt⟩) hres

end Go.Am

