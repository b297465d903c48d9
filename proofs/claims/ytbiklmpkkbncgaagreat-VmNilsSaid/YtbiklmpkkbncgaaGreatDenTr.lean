/- Rules for a frame of either kind (called plainly, or deferred): what a list of things to do comes to. -/
import Derived.Recover
set_option linter.unusedSimpArgs false
set_option linter.unusedVariables false
set_option linter.unnecessarySimpa false
namespace Go.Den
open Go

abbrev Post := Exit → Act → List Frame → World → Prop

/-- Things to do, on whatever lies behind them: they come to an exit of which Q holds. -/
def Runs (P : Program) (kd : CallKind) (its : List Item) (Q : Post) (a : Act) (cs : List Frame) (w : World) : Prop :=
  ∀ (b : Frame) (k : List Item), b.kind = kd → b.roundOf = none →
    ∃ e a' cs' w', Q e a' cs' w' ∧ Arrives P (lone (b.at a (its ++ k)) cs w) b k cs' e a' w'

section
variable {P : Program} {kd : CallKind} {Q : Post} {a : Act} {cs : List Frame} {w : World}

theorem Runs.mono {its : List Item} {Q' : Post} (h : Runs P kd its Q a cs w) (hq : ∀ e a cs w, Q e a cs w → Q' e a cs w) : Runs P kd its Q' a cs w :=
  fun b k hb hr => let ⟨e, a', cs', w', q, r⟩ := h b k hb hr; ⟨e, a', cs', w', hq _ _ _ _ q, r⟩

theorem Runs.nil (h : Q .normal a cs w) : Runs P kd [] Q a cs w := fun _ _ _ _ => ⟨.normal, a, cs, w, h, Steps.refl P _⟩

theorem Runs.head {its its' : List Item} {a' : Act} {cs' : List Frame} {w' : World}
    (hs : ∀ (b : Frame) (k : List Item), b.kind = kd → b.roundOf = none → step P (lone (b.at a (its ++ k)) cs w) = .next (lone (b.at a' (its' ++ k)) cs' w'))
    (h : Runs P kd its' Q a' cs' w') : Runs P kd its Q a cs w := fun b k hb hr =>
  let ⟨e, a₁, cs₁, w₁, q, r⟩ := h b k hb hr; ⟨e, a₁, cs₁, w₁, q, .of_steps (.one (hs b k hb hr)) r⟩

/-- what follows where nothing has left -/
def onNormal (N : Act → List Frame → World → Prop) (Q : Post) : Post
  | .normal, a, cs, w => N a cs w
  | e, a, cs, w => Q e a cs w

theorem Runs.cons {x : Item} {rest : List Item} (hp : ∀ y ∈ rest, y.plain = true) (h : Runs P kd [x] (onNormal (Runs P kd rest Q) Q) a cs w) :
    Runs P kd (x :: rest) Q a cs w := by
  intro b k hb hr
  obtain ⟨e, a₁, cs₁, w₁, q, r⟩ := h b (rest ++ k) hb hr
  have passed : ∀ (l : List Item), (∀ y ∈ l, y.plain = true) → ∀ {m : Machine} {e : Exit} {a : Act} {cs : List Frame} {w : World}, e ≠ .normal →
      Arrives P m b (l ++ k) cs e a w → Arrives P m b k cs e a w := by
    intro l
    induction l with
    | nil => intro _ m e a cs w _ h; exact h
    | cons y l ih =>
      intro hl m e a cs w he h
      exact ih (fun z hz => hl z (List.mem_cons_of_mem _ hz)) he (Arrives.pass (hl y (List.mem_cons_self ..)) (fun _ _ => .inl he) h)
  cases e with
  | normal =>
    obtain ⟨e₂, a₂, cs₂, w₂, q₂, r₂⟩ := q b k hb hr
    exact ⟨e₂, a₂, cs₂, w₂, q₂, .of_steps r r₂⟩
  | exit i => exact ⟨_, a₁, cs₁, w₁, q, passed rest hp (by simp) r⟩
  | goto l => exact ⟨_, a₁, cs₁, w₁, q, passed rest hp (by simp) r⟩
  | ret => exact ⟨_, a₁, cs₁, w₁, q, passed rest hp (by simp) r⟩
  | panic ch => exact ⟨_, a₁, cs₁, w₁, q, passed rest hp (by simp) r⟩
  | outgrown => exact ⟨_, a₁, cs₁, w₁, q, passed rest hp (by simp) r⟩

theorem Runs.skip (h : Q .normal a cs w) : Runs P kd [.code .skip] Q a cs w := .head (fun _ _ _ _ => step_skip) (.nil h)
theorem Runs.label {l : Nat} (h : Q .normal a cs w) : Runs P kd [.code (.label l)] Q a cs w := .head (fun _ _ _ _ => step_label) (.nil h)

theorem Runs.exit {i : Nat} (h : Q (.exit i) a cs w) : Runs P kd [.code (.exit i)] Q a cs w :=
  fun _ _ _ _ => ⟨.exit i, a, cs, w, h, fun _ hk => .one (step_exit hk)⟩

theorem Runs.ret (h : Q .ret a cs w) : Runs P kd [.code .ret] Q a cs w :=
  fun _ _ _ _ => ⟨.ret, a, cs, w, h, _, .one step_ret⟩

theorem Runs.seq {x y : Code} (h : Runs P kd [.code x] (onNormal (Runs P kd [.code y] Q) Q) a cs w) : Runs P kd [.code (.seq x y)] Q a cs w :=
  .head (its' := [.code x, .code y]) (fun _ _ _ _ => step_seq) (.cons (by simp [Item.plain]) h)

theorem Runs.cond {c : Operand} {x y : Code} {t : Bool} (hc : a.eval c = .bool t) (h : Runs P kd [.code (if t then x else y)] Q a cs w) :
    Runs P kd [.code (.cond c x y)] Q a cs w := .head (fun _ _ _ _ => step_cond hc) h

theorem Runs.block {i : Nat} {c : Code} (h : Runs P kd [.code c] (fun e a cs w => match e with
      | .exit j => if j = i then Q .normal a cs w else Q (.exit j) a cs w
      | e => Q e a cs w) a cs w) : Runs P kd [.code (.block i c)] Q a cs w := by
  intro b k hb hr
  obtain ⟨e, a₁, cs₁, w₁, q, r⟩ := h b (.inBlock i :: k) hb hr
  cases e with
  | normal => exact ⟨.normal, a₁, cs₁, w₁, q, .head step_block (Steps.trans r (.one step_inBlock))⟩
  | exit j =>
    by_cases hj : j = i
    · simp only [hj, if_true] at q
      exact ⟨.normal, a₁, cs₁, w₁, q, .head step_block (r k (by simp [exitTo, hj]))⟩
    · simp only [hj, if_false] at q
      refine ⟨.exit j, a₁, cs₁, w₁, q, fun k' hk => .head step_block (r k' ?_)⟩
      have : (i == j) = false := by simp; exact fun h => hj h.symm
      simp [exitTo, this, hk]
  | goto l => exact ⟨_, a₁, cs₁, w₁, q, fun k' hk => .head step_block (r k' (by simp [gotoIn, hk]))⟩
  | ret => exact ⟨_, a₁, cs₁, w₁, q, .of_steps (.one step_block) r⟩
  | panic ch => exact ⟨_, a₁, cs₁, w₁, q, .of_steps (.one step_block) r⟩
  | outgrown => exact ⟨_, a₁, cs₁, w₁, q, .of_steps (b := b) (k := k) (e := .outgrown) (.one step_block) r⟩

theorem Runs.inLoop {c : Code} (h : Runs P kd [.code c] (onNormal (Runs P kd [.inLoop c] Q) Q) a cs w) : Runs P kd [.inLoop c] Q a cs w :=
  .head (its' := [.code c, .inLoop c]) (fun _ _ _ _ => step_inLoop) (.cons (by simp [Item.plain]) h)

theorem Runs.loop1 {c : Code} (h : Runs P kd [.code c] (onNormal (Runs P kd [.inLoop c] Q) Q) a cs w) : Runs P kd [.code (.loop c)] Q a cs w :=
  .head (its' := [.code c, .inLoop c]) (fun _ _ _ _ => step_loop) (.cons (by simp [Item.plain]) h)

/-! operations of a region -/
section ops
variable {ops : Array Oper} {i : Nat} {l : List Nat} {o : Oper}

theorem Runs.op_nil (h : Q .normal a cs w) : Runs P kd [.inRegion ops []] Q a cs w := .head (fun _ _ _ _ => step_region_end) (.nil h)

theorem Runs.op_skip (ho : ops[i]? = some o) (hw : Region.wanted o (yielded ops a.tmps) = false)
    (h : Runs P kd [.inRegion ops l] Q (a.put o.dst undef) cs w) : Runs P kd [.inRegion ops (i :: l)] Q a cs w := by
  refine .head (fun b k _ _ => ?_) h
  have hs := step_op_skip (P := P) (b := b) (a := a) (k := k) (cs := cs) (w := w) (ops := ops) (i := i) (rest := l) (by simp [ho]; simpa using hw)
  simp only [ho, Option.bind_some] at hs
  exact hs

theorem step_op (ho : ops[i]? = some o) (hw : Region.wanted o (yielded ops a.tmps) = true) {a' : Act} {w' : World} {b : Frame} {k : List Item} {cs' : List Frame}
    (hf : (stepG.apply P true (b.at a (.inRegion ops (i :: l) :: k)) cs none (execOp a.eval o) w).bare =
      .go { frame := b.at a' (.inRegion ops l :: k), callers := cs', status := .running, dying := none } w') :
    step P (lone (b.at a (.inRegion ops (i :: l) :: k)) cs w) = .next (lone (b.at a' (.inRegion ops l :: k)) cs' w') :=
  step_lone_go (by rw [stepG_op ho hw]; exact hf)

theorem finish_op (ho : ops[i]? = some o) (b : Frame) (k : List Item) (v : Value) :
    (b.at a (.inRegion ops (i :: l) :: k)).finish v = b.at (a.put o.dst v) (.inRegion ops l :: k) := by
  rw [Frame.finish_at, ho]; rfl

theorem Runs.op_value (ho : ops[i]? = some o) (hw : Region.wanted o (yielded ops a.tmps) = true) {v : Value} {w' : World}
    (hr : (execOp a.eval o).run P w = .ok (.value v) w') (h : Runs P kd [.inRegion ops l] Q (a.put o.dst v) cs w') : Runs P kd [.inRegion ops (i :: l)] Q a cs w :=
  .head (fun b k _ _ => step_op ho hw (by rw [← finish_op ho]; simp [stepG.apply, hr])) h

theorem Runs.op_unit (ho : ops[i]? = some o) (hw : Region.wanted o (yielded ops a.tmps) = true) {w' : World}
    (hr : (execOp a.eval o).run P w = .ok .skip w') (h : Runs P kd [.inRegion ops l] Q (a.put o.dst undef) cs w') : Runs P kd [.inRegion ops (i :: l)] Q a cs w :=
  .head (fun b k _ _ => step_op ho hw (by rw [← finish_op ho]; simp [stepG.apply, hr])) h

theorem Runs.op_defer (ho : ops[i]? = some o) (hw : Region.wanted o (yielded ops a.tmps) = true) {d : Deferred} {w' : World}
    (hr : (execOp a.eval o).run P w = .ok (.defer d) w') (h : Runs P kd [.inRegion ops l] Q ({ a with defers := d :: a.defers }.put o.dst undef) cs w') :
    Runs P kd [.inRegion ops (i :: l)] Q a cs w :=
  .head (fun b k _ _ => step_op ho hw (by
    have e : ({ b.at a (.inRegion ops (i :: l) :: k) with defers := d :: a.defers } : Frame).finish undef =
        b.at ({ a with defers := d :: a.defers }.put o.dst undef) (.inRegion ops l :: k) := by
      have := Frame.finish_at b { a with defers := d :: a.defers } ops i l k undef
      rw [ho] at this; exact this
    simp only [stepG.apply, Sem.runT_eq, hr, GStep.bare_after]
    exact congrArg (fun fr => GStep.go { frame := fr, callers := cs, status := .running, dying := none } w') e)) h

theorem Runs.op_panic (ho : ops[i]? = some o) (hw : Region.wanted o (yielded ops a.tmps) = true) {v : Value} {w' : World}
    (hr : (execOp a.eval o).run P w = .halt (.panic v) w') (h : Q (.panic [{ v, recovered := false }]) a cs w') : Runs P kd [.inRegion ops (i :: l)] Q a cs w :=
  fun b k _ _ => ⟨_, a, cs, w', h, .inRegion ops (i :: l) :: k, .one (step_lone_go (by
    show _ = GStep.go { frame := { b.at a (.inRegion ops (i :: l) :: k) with mode := .panicking _ }, callers := cs, status := .running, dying := none } w'
    rw [List.singleton_append, stepG_op ho hw, ← Frame.raise_at]; simp [stepG.apply, hr]))⟩

theorem Runs.op_call (ho : ops[i]? = some o) (hw : Region.wanted o (yielded ops a.tmps) = true) {f : FuncId} {args : Array Value} {w' : World}
    (hr : (execOp a.eval o).run P w = .ok (.enter f args) w')
    (h : Calls P f args w' fun
      | .returned v, w'' => Runs P kd [.inRegion ops l] Q (a.put o.dst v) cs w''
      | .panicked chain, w'' => Q (.panic chain) a cs w''
      | .outgrown, _ => False) : Runs P kd [.inRegion ops (i :: l)] Q a cs w := by
  intro b k hb hro
  obtain ⟨e, w'', fr, hR, hsteps, _, hleave⟩ := h (b.at a (.inRegion ops (i :: l) :: k) :: cs)
  have henter : step P (lone (b.at a (.inRegion ops (i :: l) :: k)) cs w) = .next (lone (Frame.enter P f args .normal) (b.at a (.inRegion ops (i :: l) :: k) :: cs) w') :=
    step_lone_go (by rw [stepG_op ho hw]; simp [stepG.apply, hr, Frame.at])
  cases e with
  | returned v =>
    obtain ⟨e, a', cs', w₃, hq, harr⟩ := hR b k hb hro
    refine ⟨e, a', cs', w₃, hq, .of_steps (.head henter (hsteps.trans (.one ?_))) harr⟩
    rw [List.singleton_append, ← finish_op ho]; exact step_leave_returned hleave
  | panicked chain =>
    refine ⟨.panic chain, a, cs, w'', hR, .inRegion ops (i :: l) :: k, .head henter (hsteps.trans (.one ?_))⟩
    rw [← Frame.raise_at]; exact step_leave_panicked hleave
  | outgrown => exact hR.elim

/-- 'recover' in a frame that was called plainly -/
theorem Runs.op_recover_plain (ho : ops[i]? = some o) (hw : Region.wanted o (yielded ops a.tmps) = true) {w' : World} (hk : kd = .normal)
    (hr : (execOp a.eval o).run P w = .ok .recover w') (h : Runs P kd [.inRegion ops l] Q (a.put o.dst .nilIface) cs w') : Runs P kd [.inRegion ops (i :: l)] Q a cs w :=
  .head (fun b k hb _ => step_op ho hw (by
    have htr : tryRecover (b.at a (.inRegion ops (i :: l) :: k)) cs = none := by
      have : (b.at a (.inRegion ops (i :: l) :: k)).kind = .normal := by rw [← hk, ← hb]; rfl
      cases cs <;> simp [tryRecover, this]
    rw [← finish_op ho]
    simp only [Frame.at] at htr ⊢
    simp [stepG.apply, hr, htr])) h

/-- 'recover' in a deferred frame -/
theorem Runs.op_recover (ho : ops[i]? = some o) (hw : Region.wanted o (yielded ops a.tmps) = true) {w' : World} (hk : kd = .deferred)
    (hr : (execOp a.eval o).run P w = .ok .recover w')
    (h : match recoverD cs with
      | some (v, cs') => Runs P kd [.inRegion ops l] Q (a.put o.dst v) cs' w'
      | none => Runs P kd [.inRegion ops l] Q (a.put o.dst .nilIface) cs w') : Runs P kd [.inRegion ops (i :: l)] Q a cs w := by
  have key : ∀ (b : Frame) (k : List Item), b.kind = kd → tryRecover (b.at a (.inRegion ops (i :: l) :: k)) cs = recoverD cs := fun b k hb =>
    tryRecover_deferred (by rw [← hk, ← hb]; rfl) cs
  cases hrec : recoverD cs with
  | some p =>
    obtain ⟨v, cs'⟩ := p
    rw [hrec] at h
    refine .head (fun b k hb _ => step_op ho hw ?_) h
    have htr := key b k hb
    rw [← finish_op ho]
    simp only [Frame.at] at htr ⊢
    simp [stepG.apply, hr, htr, hrec]
  | none =>
    rw [hrec] at h
    refine .head (fun b k hb _ => step_op ho hw ?_) h
    have htr := key b k hb
    rw [← finish_op ho]
    simp only [Frame.at] at htr ⊢
    simp [stepG.apply, hr, htr, hrec]

theorem Runs.region {id : Nat} (h : Runs P kd [.inRegion ops (List.range ops.size)] Q a cs w) : Runs P kd [.code (.region id ops false)] Q a cs w :=
  .head (fun _ _ _ _ => step_region) h

/-- a region whose order is drawn -/
theorem Runs.region_draw {id : Nat} (hm : P.follows .mixedOrders = true)
    (h : ∀ t, Runs P kd [.inRegion ops (Region.linearise .any ops t)] Q a cs { w with drawn := w.drawn + 1 }) : Runs P kd [.code (.region id ops true)] Q a cs w := by
  intro b k hb hr
  obtain ⟨e, a', cs', w', q, r⟩ := h (w.tape w.drawn (.order b.fn id)) b k hb hr
  refine ⟨e, a', cs', w', q, .of_steps (.one ?_) r⟩
  have := step_region_draw (P := P) (b := b) (a := a) (k := k) (cs := cs) (w := w) (ops := ops) (id := id)
  simpa [Region.schedule, hm] using this
end ops

/-! a call, from its body -/

/-- what becomes of a plainly called frame's body -/
theorem calls_of_runs {f : FuncId} {fn : Func} {c : Code} {args : Array Value} {R : Ending → World → Prop}
    (hf : P.funcs[f]? = some fn) (hb : fn.body = some c)
    (h : ∀ cs, Runs P .normal [.code c] (fun e a' cs' w' => cs' = cs ∧ bodyPostD P fn R e a' w') { tmps := args ++ Array.replicate (fn.ntmps - args.size) undef, defers := [] } cs w) :
    Calls P f args w R := by
  intro cs
  let b : Frame := { (default : Frame) with fn := f, kind := .normal }
  have henter : Frame.enter P f args .normal = b.at { tmps := args ++ Array.replicate (fn.ntmps - args.size) undef, defers := [] } [.code c] := by
    simp [Frame.enter, Frame.at, hf, hb, b]
  obtain ⟨e, a', cs', w', ⟨rfl, hq⟩, harr⟩ := h cs b [] rfl rfl
  rw [List.append_nil, ← henter] at harr
  cases e with
  | normal =>
    obtain ⟨e', w'', fr', hR, hs, hfn, hl⟩ := leaves_steps a'.defers .returning w' { b.at a' [] with mode := .returning } cs' rfl rfl rfl hf rfl hq
    exact ⟨e', w'', fr', hR, Comes.of_steps (Steps.trans harr (.one step_end)) hs, hfn, hl⟩
  | ret =>
    obtain ⟨todo, hs₀⟩ := harr
    obtain ⟨e', w'', fr', hR, hs, hfn, hl⟩ := leaves_steps a'.defers .returning w' { b.at a' todo with mode := .returning } cs' rfl rfl rfl hf rfl hq
    exact ⟨e', w'', fr', hR, Comes.of_steps hs₀ hs, hfn, hl⟩
  | panic chain =>
    obtain ⟨todo, hs₀⟩ := harr
    obtain ⟨e', w'', fr', hR, hs, hfn, hl⟩ := leaves_steps a'.defers (.panicking chain) w' { b.at a' todo with mode := .panicking chain } cs' rfl rfl rfl hf rfl hq
    exact ⟨e', w'', fr', hR, Comes.of_steps hs₀ hs, hfn, hl⟩
  | exit i => exact hq.elim
  | goto l => exact hq.elim
  | outgrown => exact ⟨.outgrown, w', b, hq, harr.resolve_left (by simp [b]), rfl, trivial⟩

/-- of a deferred frame's body (it defers nothing itself) -/
theorem callsD_of_runs {f : FuncId} {fn : Func} {c : Code} {args : Array Value} {u : FrameMode} {R : Ending → FrameMode → World → Prop}
    (hf : P.funcs[f]? = some fn) (hb : fn.body = some c)
    (h : ∀ (c₀ : Frame) (cs : List Frame), c₀.mode = u →
      Runs P .deferred [.code c] (bodyPostS P fn c₀ cs R) { tmps := args ++ Array.replicate (fn.ntmps - args.size) undef, defers := [] } (c₀ :: cs) w) :
    CallsD P f args u w R := by
  refine callsD_of_wpS hf hb fun c₀ cs hu b k hk hr => ?_
  exact h c₀ cs hu b k hk hr

end
end Go.Den
