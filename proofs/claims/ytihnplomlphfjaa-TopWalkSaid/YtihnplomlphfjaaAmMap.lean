/-
  Runs whose order is not known: a loop over a map. Rules for code, down at the model; what is shown of a whole function so can be put beside the second machine's own calls.
-/
import Derived.Test.YtihnplomlphfjaaAmMore
import Derived.Maps.RangeRun
set_option linter.unusedVariables false
set_option linter.unusedSimpArgs false
namespace Go.Am
open Go Go.RowKit Go.ChangeMaps

section
variable {P : Program} {cfg : Cfg} {n : Nat}

/-- Whatever the model comes to from a state like (st, h), it is a state like one in R. -/
def Sem (P : Program) (n : Nat) (c : Code) (st : St) (h : Hp) (R : Exit → St → Hp → Prop) : Prop :=
  ∀ {w : World} {ctx : Ctx} {a : Act}, HR w ctx h → SR n w ctx st a → ∀ {Q : Exit → Act → World → Prop}, (∀ x st' h', R x st' h' → ∀ w' c' a', Ext w ctx w' c' → HR w' c' h' → SR n w' c' st' a' → Q x a' w') → c.wp P Q a w

theorem Sem.of_WP (hext : ExtOk P cfg) {c : Code} {st : St} {h : Hp} {R : Exit → St → Hp → Prop} (hok : codeOk cfg n c = true) (hw : WP P cfg c st h R) : Sem P n c st h fun x st' h' => ExitOk x ∧ R x st' h' := by
  obtain ⟨k, x, st', h', e, q⟩ := hw
  obtain ⟨o, r⟩ := (sound hext k).1 n c _ _ _ _ _ hok e
  intro w ctx a H S Q hQ
  exact r H S fun w' c' a' E H' S' => hQ _ _ _ ⟨o, q⟩ w' c' a' E H' S'
theorem Sem.mono {c : Code} {st : St} {h : Hp} {R R' : Exit → St → Hp → Prop} (hs : Sem P n c st h R) (hr : ∀ x st' h', R x st' h' → R' x st' h') : Sem P n c st h R' :=
  fun H S _ hQ => hs H S fun x st' h' r => hQ x st' h' (hr x st' h' r)
/-- What comes behind a first part. -/
def SemK (P : Program) (n : Nat) (b : Code) (R : Exit → St → Hp → Prop) : Exit → St → Hp → Prop := fun x st h => match x with | .normal => Sem P n b st h R | x => R x st h
@[go_sem ↓] theorem SemK_normal {b : Code} {st : St} {h : Hp} {R : Exit → St → Hp → Prop} : SemK P n b R .normal st h = Sem P n b st h R := rfl
@[go_sem ↓] theorem SemK_ret {b : Code} {st : St} {h : Hp} {R : Exit → St → Hp → Prop} : SemK P n b R .ret st h = R .ret st h := rfl
@[go_sem ↓] theorem SemK_exit {b : Code} {st : St} {h : Hp} {R : Exit → St → Hp → Prop} (j : Nat) : SemK P n b R (.exit j) st h = R (.exit j) st h := rfl
theorem Sem.seq {a b : Code} {st : St} {h : Hp} {R : Exit → St → Hp → Prop} (h1 : Sem P n a st h fun x st' h' => ExitOk x ∧ SemK P n b R x st' h') : Sem P n (.seq a b) st h R := by
  intro w ctx act H S Q hQ
  refine wp_seq (h1 H S fun x st' h' ⟨o, r⟩ w' c' a' E H' S' => ?_)
  cases x with
  | normal => exact r H' S' fun x2 st2 h2 r2 w2 c2 a2 E2 H2 S2 => hQ x2 st2 h2 r2 w2 c2 a2 (E.trans E2) H2 S2
  | exit j => exact hQ _ st' h' r w' c' a' E H' S'
  | ret => exact hQ _ st' h' r w' c' a' E H' S'
  | _ => exact o.elim
theorem Sem.seqW (hext : ExtOk P cfg) {a b : Code} {st : St} {h : Hp} {R : Exit → St → Hp → Prop} (hok : codeOk cfg n a = true) (hw : WP P cfg a st h (SemK P n b R)) : Sem P n (.seq a b) st h R :=
  Sem.seq (Sem.of_WP hext hok hw)

/-- A whole function, from its body. -/
theorem PureOk.of_Sem {f : FuncId} {fn : Func} {body : Code} {args : List AV} {r : AV} {ow kn : Bool} (hf : P.funcs[f]? = some fn) (hb : fn.body = some body) (hname : (fn.name == "runtime.NumGoroutine") = false) (hl : args.length ≤ fn.ntmps)
    (hs : Sem P fn.ntmps body (initSt args) Hp.empty (RetK P ow kn fn.results.toList fn.resultTypes.toList r)) : PureOk P f args r := by
  refine ⟨⟨fn, hf, by rw [hb]; rfl, hname⟩, fun w fz vs hfz ha R hR => ?_⟩
  have ha' : ArgsR w { base := w.heap.size, nx := 0, loc := fun _ => .dead, fz := fz } args vs := ⟨ha.1, fun j u hu => VR.base_any (ha.2 j u hu)⟩
  refine calls_of_wp hf hb ?_
  refine hs (ctx_nil hfz) (args_start ha' hl) fun x st' h' hr w' c' a' E H' S' => ?_
  obtain ⟨hx, v, hv, he⟩ := hr
  obtain ⟨y, h2, h3⟩ := resR_ok (P := P) (fn := fn) H' S' hv
  obtain ⟨c2, h4, E2, H2, hres⟩ := exportR_ok (P := P) H' h3 he
  have hbase : c'.base = w.heap.size := E.base
  rw [hbase] at hres
  have fin : R (.returned y) w' := by
    refine hR y w' c2.fz E.below (fun b hb => E2.fz b (E.fz b hb)) (fun b hfb => ?_) hres
    have hlt := H2.fzlt b hfb
    rcases (E.trans E2).fzb b hfb with h | h
    · exact .inl h
    · exact .inr ⟨h, hlt⟩
  rcases hx with rfl | rfl
  · exact ⟨S'.defers, y, h2, fin⟩
  · exact ⟨S'.defers, y, h2, fin⟩

/-! ### An iterator takes a step: nothing that the second machine sees changes -/
theorem setBlock_get (w : World) (r : Nat) (o : Obj) (b : Nat) (hb : b ≠ r) : (setBlock w r o).heap[b]? = w.heap[b]? := by
  simp [setBlock, Array.getElem?_setIfInBounds, Ne.symm hb]
theorem setBlock_at {w : World} {r : Nat} {o o' : Obj} (hr : w.heap[r]? = some o') : (setBlock w r o).heap[r]? = some o := by
  have := (Array.getElem?_eq_some_iff.1 hr).1
  simp [setBlock, Array.getElem?_setIfInBounds, this]
theorem cell_iter {w : World} {a : Addr} {m : Option Nat} {s lt : Nat} {sn : Array Nat} (h : w.heap[a.block]? = some (.mapIter m s sn lt)) : w.cell? a = none := by
  simp [World.cell?, h]

section
variable {w : World} {c : Ctx} {r : Nat} {m m' : Option Nat} {s s' lt lt' : Nat} {sn sn' : Array Nat} (hr : w.heap[r]? = some (.mapIter m s sn lt))
include hr
theorem VR.iter {v : AV} {x : Value} (h : VR w c v x) : VR (setBlock w r (.mapIter m' s' sn' lt')) c v x := by
  have hcell : ∀ (a : Addr) (u : Value), w.cell? a = some u → (setBlock w r (.mapIter m' s' sn' lt')).cell? a = some u := by
    intro a u hu
    by_cases hb : a.block = r
    · rw [cell_iter (w := w) (by rw [hb]; exact hr)] at hu; cases hu
    · rw [World.cell?_of_block (w := w) (setBlock_get w r _ a.block hb)]; exact hu
  have hsize : ∀ b, csize (setBlock w r (.mapIter m' s' sn' lt')) b = csize w b := by
    intro b
    by_cases hb : b = r
    · subst hb; simp only [csize, setBlock_at hr, hr]
    · simp only [csize, setBlock_get w r _ b hb]
  induction h with
  | undef v => exact .undef v
  | skp => exact .skp
  | bool b => exact .bool b
  | int k n => exact .int k n
  | nil => exact .nil
  | lst0 => exact .lst0
  | lst xs a cap sz cv hcap hfz hu hcl hc hv ih => exact .lst xs a cap sz cv hcap hfz hu hcl (fun j hj => hcell _ _ (hc j hj)) ih
  | sl id off n sz v hid h => exact .sl id off n sz v hid (h.mono (.inl rfl) fun b row _ => hsize b)
  | pp cs a cv hfz hcl hc hv ih => exact .pp cs a cv hfz hcl (fun j hj => hcell _ _ (hc j hj)) ih
  | ptr id off v hid h => exact .ptr id off v hid h
  | agg cs vs hl hcl hv ih => exact .agg cs vs hl hcl ih
  | tup cs vs hl hv ih => exact .tup cs vs hl ih
  | fn f cs vs hl hv ih => exact .fn f cs vs hl ih
  | nilfn => exact .nilfn
  | nilmp => exact .nilmp
  | mp id v hid h => exact .mp id v hid h
  | mv ks vs r0 ents clk hfz hb hl hk hkk hbo hv ih =>
    have hne : r0 ≠ r := by rintro rfl; rw [hr] at hb; cases hb
    exact .mv ks vs r0 ents clk hfz ((setBlock_get w r _ r0 hne).trans hb) hl hk hkk hbo ih
theorem HR.iter {h : Hp} (H : HR w c h) : HR (setBlock w r (.mapIter m' s' sn' lt')) c h := by
  have hsz : (setBlock w r (.mapIter m' s' sn' lt')).heap.size = w.heap.size := by simp [setBlock]
  refine ⟨H.nx, H.dead, H.hi, fun id b hb => ?_, H.inj, fun b hb => by rw [hsz]; exact H.fzlt b hb, by rw [hsz]; exact H.base, fun b hp => ⟨by rw [hsz]; exact (H.priv b hp).1, (H.priv b hp).2⟩⟩
  have hB := H.blk id b hb
  cases b with
  | cells fz row flat =>
    cases hl : c.loc id with
    | dead => rw [hl] at hB; exact hB
    | nilv => rw [hl] at hB; exact hB
    | at_ b r' =>
      rw [hl] at hB
      obtain ⟨h1, h2, h3, cs, et, h4, h5⟩ := hB
      have hne : b ≠ r := by rintro rfl; rw [hr] at h4; cases h4
      exact ⟨h1, h2, h3, cs, et, by rw [setBlock_get w r _ b hne]; exact h4, h5.1, fun j x hx => ⟨(h5.2 j x hx).1, (h5.2 j x hx).2.iter hr⟩⟩
  | mp es =>
    obtain ⟨b, h1, h2, h3, ents, clk, h4, h5, h6⟩ := hB
    have hne : b ≠ r := by rintro rfl; rw [hr] at h4; cases h4
    exact ⟨b, h1, h2, h3, ents, clk, by rw [setBlock_get w r _ b hne]; exact h4, ⟨h5.1, fun j k v hj => let ⟨x, g1, g2, g3⟩ := h5.2 j k v hj; ⟨x, g1, g2, g3.iter hr⟩⟩, h6⟩
  | it =>
    obtain ⟨b, h1, h2, h3, mm, ss, ssn, llt, h4⟩ := hB
    by_cases hne : b = r
    · subst hne; exact ⟨b, h1, h2, h3, m', s', sn', lt', setBlock_at hr⟩
    · exact ⟨b, h1, h2, h3, mm, ss, ssn, llt, by rw [setBlock_get w r _ b hne]; exact h4⟩
theorem SR.iter {st : St} {a : Act} (S : SR n w c st a) : SR n (setBlock w r (.mapIter m' s' sn' lt')) c st a := ⟨S.defers, S.size, fun i => (S.val i).iter hr⟩
theorem Ext.iter {w0 : World} {c0 : Ctx} {h0 : Hp} (H0 : HR w0 c0 h0) (E : Ext w0 c0 w c) (hlt : w0.heap.size ≤ r) : Ext w0 c0 (setBlock w r (.mapIter m' s' sn' lt')) c := by
  have hsz : (setBlock w r (.mapIter m' s' sn' lt')).heap.size = w.heap.size := by simp [setBlock]
  refine ⟨E.base, E.nx, ⟨E.below.os, E.below.tape, E.below.output, by rw [hsz]; exact E.below.size, fun k hk => ?_⟩, E.fz, fun b hb => ?_, E.loc, fun id b row hid hl => ?_, E.fzb, E.pv, fun b hp => by rw [setBlock_get w r _ b (by have := (H0.priv b hp).1; omega)]; exact E.pkeep b hp⟩
  · rw [setBlock_get w r _ k (by have := H0.base; omega)]; exact E.below.block k hk
  · rw [setBlock_get w r _ b (by have := H0.fzlt b hb; omega)]; exact E.keep b hb
  · have h1 : csize (setBlock w r (.mapIter m' s' sn' lt')) b = csize w b := by
      by_cases hb : b = r
      · subst hb; simp only [csize, setBlock_at hr, hr]
      · simp only [csize, setBlock_get w r _ b hb]
    rw [h1]; exact E.size id b row hid hl
end

/-- A block that no number stands for any more becomes one that nobody writes. -/
theorem HR.freeze {w : World} {c : Ctx} {h : Hp} (H : HR w c h) {b : Nat} (hb : b < w.heap.size) (hbase : c.base ≤ b) (hno : ∀ id r, c.loc id ≠ .at_ b r) (hnp : ¬ c.pv b) :
    Ext w c w { c with fz := fun x => c.fz x ∨ x = b } ∧ HR w { c with fz := fun x => c.fz x ∨ x = b } h := by
  have E : Ext w c w { c with fz := fun x => c.fz x ∨ x = b } := ⟨rfl, Nat.le_refl _, Below.refl _ _, fun _ h => .inl h, fun _ _ => rfl, fun _ _ => .inl rfl, fun _ _ _ _ _ => rfl, fun x hx => by
    rcases hx with hx | rfl
    · exact .inl hx
    · exact .inr hbase, rfl, fun _ _ => rfl⟩
  refine ⟨E, H.nx, H.dead, H.hi, fun id blk hblk => ?_, H.inj, fun x hx => ?_, H.base, fun x hp => ⟨(H.priv x hp).1, fun hf => hf.elim (H.priv x hp).2.1 (fun e => hnp (e ▸ hp)), (H.priv x hp).2.2⟩⟩
  · refine (H.blk id blk hblk).mono E (fun _ _ _ => rfl) fun k r hl => ?_
    constructor
    · rintro (h1 | rfl)
      · exact h1
      · exact absurd hl (hno id r)
    · exact .inl
  · rcases hx with hx | rfl
    · exact H.fzlt x hx
    · exact hb

theorem nodup_bound : ∀ (N : Nat) (L : List Nat), L.Nodup → (∀ v ∈ L, v < N) → L.length ≤ N := by
  intro N
  induction N with
  | zero =>
    intro L _ hv
    cases L with
    | nil => simp
    | cons x xs => have := hv x (by simp); omega
  | succ N ih =>
    intro L hn hv
    have h1 := ih (L.erase N) (hn.erase _) (by
      intro v hvm
      have h2 := (hn.mem_erase_iff).1 hvm
      have h3 := hv v h2.2
      have h4 := h2.1
      omega)
    have h5 : L.length ≤ (L.erase N).length + 1 := by
      rw [List.length_erase]
      split <;> omega
    omega

/-! ### The loop -/
section
variable {mt kt et : TypeId} {src : Operand} {tm it nx ok en k v kv vv i0 i1 i2 B C : Nat} {body : Code}
  {y0 y1 y2 y3 y4 y5 y6 y7 y8 : TypeId} {p0 p1 p2 p3 p4 p5 p6 p7 p8 : String} {a0 a1 a2 a3 a4 a5 a6 a7 a8 : Array Edge}

/-- What a round must come to. -/
def RoundK (C : Nat) (J : St → Hp → Prop) (R : Exit → St → Hp → Prop) : Exit → St → Hp → Prop := fun x st h => match x with
  | .normal => J st h
  | .exit j => j = C ∧ J st h
  | .ret => R .ret st h
  | _ => False

abbrev loopCode (i1 i2 B C it nx ok en k v kv vv : Nat) (y2 y3 y4 y5 y6 y7 y8 : TypeId) (p2 p3 p4 p5 p6 p7 p8 : String) (a2 a3 a4 a5 a6 a7 a8 : Array Edge) (body : Code) : Code :=
  .block B (.loop (.seq (.region i1 #[⟨some nx, .next (.tmp it) false, y2, p2, a2, none⟩, ⟨some ok, .extract (.tmp nx) 0, y3, p3, a3, none⟩] false)
    (.seq (.cond (.tmp ok) .skip (.exit B)) (.block C (.seq (.region i2 #[⟨some en, .entry (.tmp it), y4, p4, a4, none⟩, ⟨some k, .extract (.tmp en) 0, y5, p5, a5, none⟩, ⟨some v, .extract (.tmp en) 1, y6, p6, a6, none⟩, ⟨some kv, .assign (.tmp k), y7, p7, a7, none⟩, ⟨some vv, .assign (.tmp v), y8, p8, a8, none⟩] false) body)))))

theorem wp1 {o : Oper} {os : List Oper} {ops : Array Oper} {Q : Exit → Act → World → Prop} {a : Act} {w w' : World} {x : Value} (hg : o.guard = none) (hr : (execOp a.eval o).run P w = .ok (.value x) w') (h : wpList P ops Q os (a.put o.dst x) w') : wpList P ops Q (o :: os) a w := by
  have hw : Region.wanted o (yielded ops a.tmps) = true := by simp [Region.wanted, hg]
  simp only [wpList]
  rw [if_pos hw]
  exact .inl (next_value hr h)

theorem Sem.rangeMap (hmt : P.underlying mt = some (.map kt et)) {st : St} {h : Hp} {ida : Nat} {es : List (Int × AV)} (hm : h.bl ida = some (.mp false es)) (hsrc : ev st src = .mp ida)
    (htm : tm < n) (hit : it < n) (hnx : nx < n) (hok : ok < n) (hen : en < n) (hk : k < n) (hv : v < n) (hkv : kv < n) (hvv : vv < n)
    (d1 : it ≠ nx) (d2 : it ≠ ok) (d3 : nx ≠ ok) (d4 : en ≠ k) (d5 : en ≠ v) (d6 : k ≠ v) (d7 : k ≠ kv) (d8 : v ≠ kv) (d9 : it ≠ en) (d10 : tm ≠ it)
    {R : Exit → St → Hp → Prop} (J : List (Int × AV) → St → Hp → Prop) (hkeep : ∀ D st h', J D st h' → st it = .ptr h.nx 0 ∧ h'.bl h.nx = some .it)
    (h0 : J [] (upd (upd st tm (.mp ida)) it (.ptr h.nx 0)) ((h.put ida none).alloc .it))
    (step : ∀ D key val st1 h1, J D st1 h1 → (∀ p ∈ D, p ∈ es) → (key, val) ∈ es →
      Sem P n body (upd (upd (upd (upd (upd (upd (upd st1 nx .undef) ok (.bool true)) en .undef) k (I key)) v val) kv (I key)) vv val) h1 (RoundK C (J (D ++ [(key, val)])) R))
    (hend : ∀ D st1 h1, J D st1 h1 → (∀ p ∈ D, p ∈ es) → (∀ p ∈ es, p ∈ D) → R .normal (upd (upd st1 nx .undef) ok (.bool false)) h1) :
    Sem P n (.seq (.region i0 #[⟨some tm, .move src, y0, p0, a0, none⟩, ⟨some it, .range mt (.tmp tm), y1, p1, a1, none⟩] false) (loopCode i1 i2 B C it nx ok en k v kv vv y2 y3 y4 y5 y6 y7 y8 p2 p3 p4 p5 p6 p7 p8 a2 a3 a4 a5 a6 a7 a8 body)) st h R := by
  intro w ctx a H S Q hQ
  have put : ∀ {w : World} {c : Ctx} {st : St} {a : Act} {d : Nat} {u : AV} {x : Value}, SR n w c st a → d < n → VR w c u x → SR n w c (upd st d u) (a.put (some d) x) := fun S hd hx => S.put (d := some _) (fun t ht => by cases ht; exact hd) hx
  have hget : ∀ (b : Act) (d : Nat) (u : Value), b.tmps.size = n → d < n → (b.put (some d) u).eval (.tmp d) = u := by
    intro b d u hb hd
    simp only [Act.eval, Act.put]
    rw [Array.getD_eq_getD_getElem?, Array.getElem?_setIfInBounds, if_pos rfl, if_pos (by rw [hb]; exact hd), Option.getD_some]
  have hoth : ∀ (b : Act) (d d' : Nat) (u : Value), d' ≠ d → (b.put (some d) u).eval (.tmp d') = b.eval (.tmp d') := by
    intro b d d' u hd
    simp only [Act.eval, Act.put]
    rw [Array.getD_eq_getD_getElem?, Array.getElem?_setIfInBounds, if_neg (Ne.symm hd), Array.getD_eq_getD_getElem?]
  -- the map, the iterator
  obtain ⟨bm, ents, clk, hl, hbase, hnf, hbm, hmr, hbo⟩ := H.mapB hm
  have hS := S.ev src
  rw [hsrc] at hS
  obtain ⟨hid, r', hrv, hrl⟩ := hS.mp_inv
  obtain rfl := hrl bm false hl
  have hlt : r' < w.heap.size := (Array.getElem?_eq_some_iff.1 hbm).1
  obtain ⟨E1, H1⟩ := H.kill ida
  have hno : ∀ id r, (ctx.kill ida).loc id ≠ .at_ r' r := by
    intro id r hh
    simp only [Ctx.kill] at hh
    split at hh
    · cases hh
    · rename_i hne
      exact hne (H.inj id ida r' r false hh hl)
  obtain ⟨E2, H2⟩ := H1.freeze hlt hbase hno (fun hp => (H.priv r' hp).2.2 ida false hl)
  generalize hc2 : ({ ctx.kill ida with fz := fun x => (ctx.kill ida).fz x ∨ x = r' } : Ctx) = c2 at E2 H2
  have hfr : c2.fz r' := by rw [← hc2]; exact .inr rfl
  have hloc2 : c2.nx = h.nx := by rw [← hc2]; exact H1.nx
  -- the new block
  let w1 := w.alloc (.mapIter (some r') clk #[] clk)
  have hb1 : Below w.heap.size w w1 := below_alloc1 w _
  have hg1 : ∀ b, c2.fz b → (c2.fz b ∨ b = w.heap.size) := fun b hb => .inl hb
  have hg2 : ∀ b, (c2.fz b ∨ b = w.heap.size) → c2.fz b ∨ (w.heap.size ≤ b ∧ b < w1.heap.size) := fun b hb => by
    rcases hb with hb | rfl
    · exact .inl hb
    · exact .inr ⟨Nat.le_refl _, by simp [w1]⟩
  have E3 := Ext.grow H2 hb1 (fun b => c2.fz b ∨ b = w.heap.size) hg1 hg2
  have H3 := H2.grow hb1 (fun b => c2.fz b ∨ b = w.heap.size) hg1 hg2
  have hit1 : w1.heap[w.heap.size]? = some (.mapIter (some r') clk #[] clk) := alloc_new w _
  have hB : BR w1 (({ c2 with fz := fun b => c2.fz b ∨ b = w.heap.size } : Ctx).push (.at_ w.heap.size false)) (.at_ w.heap.size false) .it := ⟨w.heap.size, rfl, H2.base, .inr rfl, some r', clk, #[], clk, hit1⟩
  obtain ⟨E4, H4⟩ := H3.pushAt (.at_ w.heap.size false) .it (fun _ => hB) (fun b r hb id s hh => by
    cases hb
    obtain ⟨_, _, _, _, h9, _⟩ := H2.at (id := id) (n := w.heap.size) (r := s) hh
    omega) (fun b r hb hp => by cases hb; have := (H2.priv _ hp).1; omega)
  generalize hc4 : (({ c2 with fz := fun b => c2.fz b ∨ b = w.heap.size } : Ctx).push (.at_ w.heap.size false)) = c4 at E4 H4
  have E04 : Ext w ctx w1 c4 := ((E1.trans E2).trans E3).trans E4
  have hloc4 : c4.loc h.nx = .at_ w.heap.size false := by rw [← hc4]; simp only [Ctx.push]; rw [if_pos hloc2.symm]
  have hf4 : c4.fz r' ∧ c4.fz w.heap.size := by rw [← hc4]; exact ⟨.inl hfr, .inr rfl⟩
  have hnx4 : h.nx < c4.nx := by rw [← hc4]; simp only [Ctx.push]; omega
  have hne : r' ≠ w.heap.size := by omega
  have hbm1 : w1.heap[r']? = some (.map ents clk) := by rw [show w1.heap[r']? = w.heap[r']? from alloc_old w _ hlt]; exact hbm
  have hmr4 : MR w1 c4 es ents.toList := hmr.mono E04
  -- region 0
  have hmv : VR w ctx (.mp ida) (a.eval src) := by have := S.ev src; rwa [hsrc] at this
  have S1 : SR n w1 c4 (upd st tm (.mp ida)) (a.put (some tm) (a.eval src)) := (put S htm hmv).mono E04
  have htmv : (a.put (some tm) (a.eval src)).eval (.tmp tm) = .map (some r') := by
    rw [hget a tm _ S.size htm, hrv]
  refine wp_seq (wp_region_list ?_)
  refine wp1 rfl (w' := w) (x := a.eval src) rfl ?_
  refine wp1 rfl (w' := w1) (x := .pointer (some ⟨w.heap.size, 0, none⟩)) ?_ ?_
  · simp only [execOp, htmv, Sem.run_bind, run_range_map w mt kt et r' ents clk hmt hbm, Result.andThen_ok, Sem.run_pure]
    rfl
  have S2 : SR n w1 c4 (upd (upd st tm (.mp ida)) it (.ptr h.nx 0)) ((a.put (some tm) (a.eval src)).put (some it) (.pointer (some ⟨w.heap.size, 0, none⟩))) :=
    put S1 hit (.ptr _ _ _ hnx4 ⟨_, rfl, fun b row hb => by rw [hloc4] at hb; cases hb; rfl⟩)
  show (loopCode ..).wp P Q _ _
  refine wp_block ?_
  -- the loop
  let Inv : Act → World → Prop := fun a' w' => ∃ (D : List Nat) (st' : St) (h' : Hp) (c' : Ctx) (lt : Nat), Ext w ctx w' c' ∧ HR w' c' h' ∧ SR n w' c' st' a' ∧ c'.loc h.nx = .at_ w.heap.size false ∧ c'.fz r' ∧ c'.fz w.heap.size ∧
    w'.heap[r']? = some (.map ents clk) ∧ w'.heap[w.heap.size]? = some (.mapIter (some r') clk (D.map fun i => ents.toList[i]!.born).toArray lt) ∧ clk ≤ lt ∧ (∀ i ∈ D, i < es.length) ∧ D.Nodup ∧ MR w' c' es ents.toList ∧ J (D.map fun i => es[i]!) st' h'
  let seenOf : World → Nat := fun w' => match w'.heap[w.heap.size]? with | some (.mapIter _ _ sn _) => sn.size | _ => 0
  refine wp_loop Inv (fun _ w' => es.length - seenOf w') ⟨[], _, _, c4, clk, E04, H4, S2, hloc4, hf4.1, hf4.2, hbm1, hit1, Nat.le_refl _, by simp, by simp, hmr4, h0⟩ ?_
  rintro a' w' ⟨D, st', h', c', lt, E, H', S', hlc, hfa, hfi, hma, hmi, hclk, hDl, hDn, hMR, hJ⟩
  obtain ⟨hst, hbit⟩ := hkeep _ _ _ hJ
  have hpt : a'.eval (.tmp it) = .pointer (some ⟨w.heap.size, 0, none⟩) := by
    have := S'.val it
    rw [hst] at this
    obtain ⟨_, ad, hA, hat⟩ := this.ptr_inv
    show a'.tmps.getD it Go.undef = _
    rw [hA, hat _ _ hlc]
  have hes : es.length = ents.toList.length := hMR.1
  have hborn : ∀ x ∈ ents.toList, x.born < clk := hbo.2
  have hseen : seenOf w' = D.length := by simp only [seenOf, hmi]; simp
  have hJD : ∀ p ∈ D.map (fun i => es[i]!), p ∈ es := by
    intro p hp
    obtain ⟨i, hi, rfl⟩ := List.mem_map.1 hp
    have := hDl i hi
    rw [getElem!_pos es i this]; exact List.getElem_mem this
  refine wp_seq (wp_region_list ?_)
  rcases run_next_at (P := P) w' y2 w.heap.size r' clk lt (D.map fun i => ents.toList[i]!.born).toArray ents clk hmi hma hborn hclk with ⟨hz, hrun⟩ | ⟨e, he, w2, hw2, hrun⟩
  · -- none is left
    refine wp1 rfl (w' := w') (x := .tuple #[.bool false]) ?_ ?_
    · simp only [execOp, hpt, Sem.run_bind, hrun, Result.andThen_ok, Sem.run_pure]
    have S5 : SR n w' c' (upd st' nx .undef) (a'.put (some nx) (.tuple #[.bool false])) := put S' hnx (.undef _)
    have hnv : (a'.put (some nx) (.tuple #[.bool false])).eval (.tmp nx) = .tuple #[.bool false] := by
      simp only [Act.eval, Act.put]
      rw [Array.getD_eq_getD_getElem?, Array.getElem?_setIfInBounds, if_pos rfl, if_pos (by rw [S'.size]; exact hnx), Option.getD_some]
    refine wp1 rfl (w' := w') (x := .bool false) ?_ ?_
    · simp only [execOp, hnv, Sem.run_bind, Instr.extract]
      rfl
    have S6 : SR n w' c' (upd (upd st' nx .undef) ok (.bool false)) ((a'.put (some nx) (.tuple #[.bool false])).put (some ok) (.bool false)) := put S5 hok (.bool false)
    refine wp_seq (wp_cond_false (by
      have := S6.val ok
      simp only [upd, if_true] at this
      exact this.bool_inv) (wp_exit ?_))
    show Exit.inBlock B Q (.exit B) _ _
    simp only [Exit.inBlock, if_true]
    have hall : ∀ p ∈ es, p ∈ D.map (fun i => es[i]!) := by
      intro p hp
      obtain ⟨i, hi, rfl⟩ := List.getElem_of_mem hp
      have hin : i ∈ D := by
        refine Classical.byContradiction fun hni => ?_
        have hi' : i < ents.toList.length := by omega
        have hmem : ents.toList[i] ∈ (leftOf ents (D.map fun i => ents.toList[i]!.born).toArray).toList := by
          simp only [leftOf, Array.toList_filter, List.mem_filter]
          refine ⟨List.getElem_mem _, ?_⟩
          simp only [Bool.not_eq_true', List.contains_toArray]
          rw [List.contains_eq_mem, decide_eq_false_iff_not]
          intro hh
          obtain ⟨j, hj, hjb⟩ := List.mem_map.1 hh
          have hjl := hDl j hj
          rw [getElem!_pos ents.toList j (by omega)] at hjb
          have h1 := hbo.1
          have := (List.getElem_inj (h₀ := by simpa using (show j < ents.toList.length by omega)) (h₁ := by simpa using hi') h1).1 (by simpa using hjb)
          subst this
          exact hni hj
        have : (leftOf ents (D.map fun i => ents.toList[i]!.born).toArray).toList.length = 0 := by simpa using hz
        rw [List.eq_nil_of_length_eq_zero this] at hmem
        cases hmem
      exact List.mem_map.2 ⟨i, hin, by rw [getElem!_pos es i hi]⟩
    exact hQ _ _ _ (hend _ _ _ hJ hJD hall) w' c' _ E H' S6
  · -- one comes out
    simp only [leftOf, Array.toList_filter, List.mem_filter] at he
    obtain ⟨he1, he2⟩ := he
    simp only [Bool.not_eq_true', List.contains_toArray] at he2
    rw [List.contains_eq_mem, decide_eq_false_iff_not] at he2
    obtain ⟨i, hi, hie⟩ := List.getElem_of_mem he1
    have hil : i < es.length := by omega
    have hiD : i ∉ D := by
      intro hh
      refine he2 (List.mem_map.2 ⟨i, hh, ?_⟩)
      rw [getElem!_pos ents.toList i hi, hie]
    -- the drawn world
    have hdr : Ext w' c' w2 c' ∧ HR w2 c' h' ∧ w2.heap = w'.heap := by
      rcases hw2 with rfl | rfl
      · exact ⟨Ext.refl _ _, H', rfl⟩
      · obtain ⟨e1, e2⟩ := H'.drew; exact ⟨e1, e2, rfl⟩
    obtain ⟨Ed, Hd, hheap⟩ := hdr
    have hmi2 : w2.heap[w.heap.size]? = some (.mapIter (some r') clk (D.map fun i => ents.toList[i]!.born).toArray lt) := by rw [hheap]; exact hmi
    let w3 := setBlock w2 w.heap.size (.mapIter (some r') clk ((D.map fun i => ents.toList[i]!.born).toArray.push e.born) clk)
    have H3' : HR w3 c' h' := Hd.iter hmi2
    have E3' : Ext w ctx w3 c' := Ext.iter hmi2 H (E.trans Ed) (Nat.le_refl _)
    have S3' : SR n w3 c' st' a' := (S'.mono Ed).iter hmi2
    have hma3 : w3.heap[r']? = some (.map ents clk) := by
      show (setBlock w2 _ _).heap[r']? = _
      rw [setBlock_get _ _ _ _ hne, hheap]; exact hma
    have hmi3 : w3.heap[w.heap.size]? = some (.mapIter (some r') clk ((D.map fun i => ents.toList[i]!.born).toArray.push e.born) clk) := setBlock_at hmi2
    have hMR3 : MR w3 c' es ents.toList := ⟨hMR.1, fun j kk u hj => let ⟨x, g1, g2, g3⟩ := hMR.2 j kk u hj; ⟨x, g1, g2, (g3.mono Ed).iter hmi2⟩⟩
    refine wp1 rfl (w' := w3) (x := .tuple #[.bool true, e.key, e.val]) ?_ ?_
    · simp only [execOp, hpt, Sem.run_bind, hrun, Result.andThen_ok, Sem.run_pure]
      rfl
    have S5 : SR n w3 c' (upd st' nx .undef) (a'.put (some nx) (.tuple #[.bool true, e.key, e.val])) := put S3' hnx (.undef _)
    have hnv : (a'.put (some nx) (.tuple #[.bool true, e.key, e.val])).eval (.tmp nx) = .tuple #[.bool true, e.key, e.val] := by
      simp only [Act.eval, Act.put]
      rw [Array.getD_eq_getD_getElem?, Array.getElem?_setIfInBounds, if_pos rfl, if_pos (by rw [S'.size]; exact hnx), Option.getD_some]
    refine wp1 rfl (w' := w3) (x := .bool true) ?_ ?_
    · simp only [execOp, hnv, Sem.run_bind, Instr.extract]
      rfl
    have S6 : SR n w3 c' (upd (upd st' nx .undef) ok (.bool true)) ((a'.put (some nx) (.tuple #[.bool true, e.key, e.val])).put (some ok) (.bool true)) := put S5 hok (.bool true)
    refine wp_seq (wp_cond_true (by
      have := S6.val ok
      simp only [upd, if_true] at this
      exact this.bool_inv) (wp_skip ?_))
    show (Code.block C _).wp P _ _ _
    refine wp_block (wp_seq (wp_region_list ?_))
    generalize ha6 : ((a'.put (some nx) (.tuple #[.bool true, e.key, e.val])).put (some ok) (.bool true)) = a6 at S6
    have hpt6 : a6.eval (.tmp it) = .pointer (some ⟨w.heap.size, 0, none⟩) := by
      have := S6.val it
      simp only [upd, d1, d2, if_false, hst] at this
      obtain ⟨_, ad, hA, hat⟩ := this.ptr_inv
      show a6.tmps.getD it Go.undef = _
      rw [hA, hat _ _ hlc]
    refine wp1 rfl (w' := w3) (x := .tuple #[e.key, e.val]) ?_ ?_
    · simp only [execOp, hpt6, Sem.run_bind, run_entry_at (P := P) w3 w.heap.size r' clk _ ents clk e hmi3 hma3 he1 hbo.1, Result.andThen_ok, Sem.run_pure]
    have S7 : SR n w3 c' (upd (upd (upd st' nx .undef) ok (.bool true)) en .undef) (a6.put (some en) (.tuple #[e.key, e.val])) := put S6 hen (.undef _)
    obtain ⟨key, val, hkv'⟩ : ∃ key val, es[i] = (key, val) := ⟨_, _, rfl⟩
    obtain ⟨x, hx1, hx2, hx3⟩ := hMR3.2 i key val (by rw [List.getElem?_eq_getElem hil, hkv'])
    have hxe : x = e := by rw [List.getElem?_eq_getElem hi, hie] at hx1; exact (Option.some.inj hx1).symm
    subst hxe
    have hkeyR : VR w3 c' (I key) x.key := by rw [hx2]; exact .int _ _
    refine wp1 rfl (w' := w3) (x := x.key) ?_ ?_
    · simp only [execOp, hget a6 en _ S6.size hen, Sem.run_bind, Instr.extract]
      rfl
    have S8 := put (d := k) S7 hk hkeyR
    refine wp1 rfl (w' := w3) (x := x.val) ?_ ?_
    · simp only [execOp, hoth _ k en _ d4, hget a6 en _ S6.size hen, Sem.run_bind, Instr.extract]
      rfl
    have S9 := put (d := v) S8 hv hx3
    refine wp1 rfl (w' := w3) (x := x.key) ?_ ?_
    · simp only [execOp, hoth _ v k _ d6, hget _ k _ S7.size hk]
      rfl
    have S10 := put (d := kv) S9 hkv hkeyR
    refine wp1 rfl (w' := w3) (x := x.val) ?_ ?_
    · simp only [execOp, hoth _ kv v _ d8, hget _ v _ S8.size hv]
      rfl
    have S11 := put (d := vv) S10 hvv hx3
    show body.wp P _ _ _
    have hDe : (D ++ [i]).map (fun i => es[i]!) = D.map (fun i => es[i]!) ++ [(key, val)] := by
      rw [List.map_append, List.map_cons, List.map_nil, getElem!_pos es i hil, hkv']
    have hes2 : (key, val) ∈ es := by rw [← hkv']; exact List.getElem_mem hil
    refine step _ key val st' h' hJ hJD hes2 H3' S11 fun z st4 h4 hR w4 c4' a4 E4' H4' S4' => ?_
    have next : J (D.map (fun i => es[i]!) ++ [(key, val)]) st4 h4 → Inv a4 w4 ∧ es.length - seenOf w4 < es.length - seenOf w' := by
      intro hJ4
      obtain ⟨hst4, hb4⟩ := hkeep _ _ _ hJ4
      have hlc4 : c4'.loc h.nx = .at_ w.heap.size false := by
        have hlt9 : h.nx < c'.nx := by
          rcases Nat.lt_or_ge h.nx c'.nx with hh | hh
          · exact hh
          · rw [H'.hi _ (by have := H'.nx; omega)] at hbit; cases hbit
        rcases E4'.loc h.nx hlt9 with e | e
        · rw [e]; exact hlc
        · have hBB := H4'.blk _ _ hb4
          rw [e] at hBB
          obtain ⟨b, q, _⟩ := hBB
          cases q
      have hmi4 : w4.heap[w.heap.size]? = some (.mapIter (some r') clk ((D.map fun i => ents.toList[i]!.born).toArray.push x.born) clk) := by rw [E4'.keep _ hfi]; exact hmi3
      have hpush : (D.map fun i => ents.toList[i]!.born).toArray.push x.born = ((D ++ [i]).map fun i => ents.toList[i]!.born).toArray := by
        rw [List.map_append, List.map_cons, List.map_nil, getElem!_pos ents.toList i hi, hie]; simp
      refine ⟨⟨D ++ [i], st4, h4, c4', clk, E3'.trans E4', H4', S4', hlc4, E4'.fz _ hfa, E4'.fz _ hfi, by rw [E4'.keep _ hfa]; exact hma3, by rw [hmi4, hpush], Nat.le_refl _, ?_, ?_, hMR3.mono E4', by rw [hDe]; exact hJ4⟩, ?_⟩
      · intro j hj
        rcases List.mem_append.1 hj with hj | hj
        · exact hDl j hj
        · simp at hj; subst hj; exact hil
      · rw [List.nodup_append]
        exact ⟨hDn, by simp, fun a ha b hb => by simp at hb; subst hb; rintro rfl; exact hiD ha⟩
      · have hs4 : seenOf w4 = D.length + 1 := by simp only [seenOf, hmi4]; simp
        have hDlt : D.length < es.length := by
          have := nodup_bound es.length (i :: D) (List.nodup_cons.2 ⟨hiD, hDn⟩) (fun j hj => by
            rcases List.mem_cons.1 hj with rfl | hj
            · exact hil
            · exact hDl j hj)
          rw [List.length_cons] at this
          omega
        rw [hs4, hseen]; omega
    cases z with
    | normal => exact next hR
    | exit j =>
      obtain ⟨rfl, hJ4⟩ := hR
      show Exit.inBlock j _ (.exit j) _ _
      simp only [Exit.inBlock, if_true]
      exact next hJ4
    | ret => exact hQ _ _ _ hR w4 c4' a4 (E3'.trans E4') H4' S4'
    | _ => exact hR.elim
end
end
end Go.Am

