/- Operations that turn the heap of objects, or may fail: the theorem, but for calls. -/
import Derived.Test.YtbiklmpkkbncgaaGreatDenOpsM
set_option linter.unusedSimpArgs false
set_option linter.unusedVariables false
set_option linter.unnecessarySimpa false
namespace Go.Den
open Go

def special (o : Oper) : Prop :=
  match o.op with
  | .panic _ | .defer _ => True
  | .call c => match c.callee with
    | .value _ | .builtin .recover => True
    | _ => False
  | _ => False

def OpRes (P : Program) (ρ : Operand → Value) (o : Oper) (c : Cx) (s : Hs) (k : AV → Hs → R) (out : Out) : Prop :=
  ∃ v s', k v s' = some out ∧ (Gives P ρ o c s v s' ∨ (v = undefA ∧ GivesU P ρ o c s s'))

section
variable {P : Program} {c : Cx} {s : Hs} {a : Act}

theorem elemOf_some {t el : TypeId} (h : elemOf? P t = some el) : P.underlying t = some (.slice el) := by
  unfold elemOf? at h
  split at h
  · rename_i e; cases h; exact e
  · cases h

theorem opsSame {l cp : Operand} (h : sameO l cp = true) : a.eval cp = a.eval l := by
  unfold sameO at h
  split at h
  · rw [beq_iff_eq] at h; subst h; rfl
  · simp only [Bool.and_eq_true, decide_eq_true_eq, beq_iff_eq] at h
    obtain ⟨rfl, rfl⟩ := h; rfl
  · cases h

theorem VR.tup2 {u v : AV} {x y : Value} (h1 : VR c u x) (h2 : VR c v y) : VR c (.tup [u, v]) (.tuple #[x, y]) := by
  refine .tup _ _ rfl fun j u' v' e1 e2 => ?_
  match j with
  | 0 => simp at e1 e2; subst e1; subst e2; exact h1
  | 1 => simp at e1 e2; subst e1; subst e2; exact h2
  | j + 2 => simp at e1

theorem zeroVal_sound {t : TypeId} {z : AV} {w : World} (h : zeroVal P t = some z) : ∃ v, (zeroValue t).run P w = .ok v w ∧ VR c z v := by
  unfold zeroVal at h
  split at h
  · rename_i cs v ez ei
    cases hg : (aggV v == isAggD P t) with
    | false => rw [hg] at h; cases h
    | true =>
      rw [hg] at h
      simp only [cond_true] at h
      rw [beq_iff_eq] at hg
      obtain ⟨v', r1, r2, r3, r4, r5⟩ := zeroT_sound (c := c) (w := w) ez
      cases hi : P.info? t with
      | none => rw [hi] at ei; cases ei
      | some i =>
        rw [hi] at ei
        simp only [Option.bind_some] at ei
        have : v' = v := by
          simp [zeroValue, run_typeInfo hi, ei] at r1
          exact r1.symm
        subst this
        refine ⟨v', r1, ?_⟩
        obtain ⟨d, hd, hm⟩ := mkVal_sound (c := c) (vals := v'.cells.toList) h (by simpa using r3) r4 (fun j u y e1 e2 => r5 j u y e1 (by simpa using e2))
        simp only [isAggD, hd] at hg
        rcases hm with ⟨h1, h2⟩ | ⟨h1, u, y, rfl, h3, rfl, h4⟩
        · rw [h1] at hg
          cases v' <;> simp [aggV] at hg
          simpa [Value.cells] using h2
        · rw [h1] at hg
          cases v' <;> simp [aggV] at hg <;> (simp [Value.cells] at h3; subst h3; exact h4)
  · cases h

theorem opD_gives {pol : Pol} {call : CallK} {fn : FuncId} {nw : Option Nat} {e : Operand → AV} {o : Oper} {k kp : AV → Hs → R} {out : Out} (hr : RelH c) (hs : c.h = s.h)
    (he : ∀ x ∈ o.op.operands, VR c (e x) (a.eval x)) (h : opD P pol call fn nw e o s k kp = some out) : OpRes P a.eval o c s k out ∨ special o := by
  obtain ⟨dst, op, ty, pos, after, guard⟩ := o
  cases op
  case pick cn x y =>
    left
    simp only [opD] at h
    split at h
    · rename_i t ec
      have hc := he cn (by simp [Op.operands])
      rw [ec] at hc
      cases t with
      | true =>
        refine ⟨_, _, h, .inl ⟨a.eval x, c, ?_, Step.refl hr hs, he x (by simp [Op.operands])⟩⟩
        simp [execOp, hc.bool_inv, asBool]
      | false =>
        refine ⟨_, _, h, .inl ⟨a.eval y, c, ?_, Step.refl hr hs, he y (by simp [Op.operands])⟩⟩
        simp [execOp, hc.bool_inv, asBool]
    · cases h
  case alloc t =>
    left
    simp only [opD] at h
    split at h
    · rename_i cs ez
      obtain ⟨i, h', hn, hk, _⟩ := newD_eq h
      exact ⟨_, _, hk, .inl (alloc_sound hr hs rfl ez hn)⟩
    · cases h
  case box t x =>
    left
    simp only [opD] at h
    split at h
    · rename_i cs ez
      obtain ⟨i, h', hn, hk, _⟩ := newD_eq h
      exact ⟨_, _, hk, .inl (box_sound hr hs rfl (he x (by simp [Op.operands])) ez hn)⟩
    · cases h
  case buildSlice t len parts =>
    left
    simp only [opD] at h
    split at h
    · rename_i el eel
      split at h
      · rename_i z ps ez ep
        cases hall : (ps.all (fun p => decide (p.1 < len)) && decide (len * P.cellsOf el ≤ 16777216)) with
        | false => rw [hall] at h; cases h
        | true =>
          rw [hall] at h
          simp only [cond_true] at h
          have hpe : ∀ (k : Nat) (i : Nat) (x : Operand), parts[k]? = some (i, x) → VR c (e x) (a.eval x) := fun k i x hx => he x (by
            simp only [Op.operands, List.mem_toArray, List.mem_map]
            exact ⟨(i, x), by simpa using Array.mem_of_getElem? hx, rfl⟩)
          cases hgr : pol.grow fn (dst.getD 0) with
          | true =>
            rw [hgr] at h
            simp only [cond_true] at h
            obtain ⟨i, h', hn, hk, _⟩ := newD_eq h
            exact ⟨_, _, hk, .inl (buildSlice_arr hr hs rfl (elemOf_some eel) ez ep hall hpe hn)⟩
          | false =>
            rw [hgr] at h
            exact ⟨_, _, h, .inl (buildSlice_sound hr hs rfl (elemOf_some eel) ez ep hall hpe)⟩
      · cases h
    · cases h
  case store t ad x =>
    left
    simp only [opD] at h
    split at h
    · rename_i cs ecs
      obtain ⟨h', est, h⟩ := storeK_eq h
      exact ⟨_, _, h, .inr ⟨rfl, store_sound hr hs rfl (he ad (by simp [Op.operands])) (he x (by simp [Op.operands])) ecs est⟩⟩
    · cases h
  case indexAddr t x ix =>
    left
    have hx := he x (by simp [Op.operands])
    have hi := he ix (by simp [Op.operands])
    simp only [opD] at h
    split at h
    · rename_i el z tk n f i e1 e2 e3
      split at h
      · rename_i hb
        cases hz : sized P el z with
        | false => rw [hz] at h; cases h
        | true =>
          rw [hz] at h
          have h := castCs_eq (K := fun row => k (.pp row 0) s) h
          rw [e2] at hx
          exact ⟨_, _, h, .inl (indexAddr_sl hr hs rfl e1 hx hi e3 hb hz)⟩
      · cases h
    · rename_i el id gen off len i e1 e2 e3
      split at h
      · rename_i z gen' n f e4
        cases hz : (gen == gen' && sized P el z) with
        | false => rw [hz] at h; cases h
        | true =>
          rw [hz] at h
          simp only [Bool.and_eq_true, beq_iff_eq] at hz
          obtain ⟨rfl, hz⟩ := hz
          cases hb : (decide (0 ≤ i) && decide (i.toNat < len)) with
          | false => rw [hb] at h; cases h
          | true =>
            rw [hb] at h
            simp only [Bool.and_eq_true, decide_eq_true_eq] at hb
            rw [e2] at hx
            exact ⟨_, _, h, .inl (indexAddr_sr hr hs rfl e1 hx hi e3 hb hz e4)⟩
      · cases h
    · rename_i n el id gen row q i e1 e2 e3
      cases hz : (standing s.h (.ptr id gen row q) && sized P el (P.cellsOf el)) with
      | false => rw [hz] at h; cases h
      | true =>
        rw [hz] at h
        simp only [Bool.and_eq_true] at hz
        cases hb : (decide (0 ≤ i) && decide (i.toNat < n)) with
        | false => rw [hb] at h; cases h
        | true =>
          rw [hb] at h
          simp only [Bool.and_eq_true, decide_eq_true_eq] at hb
          rw [e2] at hx
          exact ⟨_, _, h, .inl (indexAddr_arr hr hs rfl e1 hx hi e3 hb hz.2 hz.1)⟩
    · rename_i n el row q i e1 e2 e3
      cases hb : (decide (0 ≤ i) && decide (i.toNat < n) && sized P el (P.cellsOf el)) with
      | false => rw [hb] at h; cases h
      | true =>
        rw [hb] at h
        simp only [Bool.and_eq_true, decide_eq_true_eq] at hb
        rw [e2] at hx
        exact ⟨_, _, h, .inl (indexAddr_pp hr hs rfl e1 hx hi e3 hb.1 hb.2)⟩
    · cases h
  case index t x ix =>
    left
    have hx := he x (by simp [Op.operands])
    have hi := he ix (by simp [Op.operands])
    simp only [opD] at h
    split at h
    · rename_i b i e1 e2 e3
      split at h
      · rename_i hb
        rw [e2] at hx
        exact ⟨_, _, h, .inl (index_str hr hs rfl e1 hx hi e3 hb)⟩
      · cases h
    · rename_i n el cs i e1 e2 e3
      cases hb : (decide (0 ≤ i) && decide (i.toNat < n) && sized P el (P.cellsOf el)) with
      | false => rw [hb] at h; cases h
      | true =>
        rw [hb] at h
        simp only [Bool.and_eq_true, decide_eq_true_eq] at hb
        simp only [cond_true] at h
        split at h
        · rename_i v ev
          rw [e2] at hx
          exact ⟨_, _, h, .inl (index_arr hr hs rfl e1 hx hi e3 hb.1 hb.2 ev)⟩
        · cases h
    · cases h
  case slice t x lo hi mx =>
    left
    have hx := he x (by simp [Op.operands])
    have hops : ∀ y, lo = some y ∨ hi = some y ∨ mx = some y → VR c (e y) (a.eval y) := by
      intro y hy
      refine he y ?_
      rcases hy with rfl | rfl | rfl <;> simp [Op.operands]
    simp only [opD] at h
    split at h
    · rename_i b e1 e2
      rw [e2] at hx
      split at h
      · rename_i l u e3 e4
        cases hb : (decide (0 ≤ l) && decide (l ≤ u) && decide (u ≤ b.length)) with
        | false => rw [hb] at h; cases h
        | true =>
          rw [hb] at h
          simp only [Bool.and_eq_true, decide_eq_true_eq] at hb
          exact ⟨_, _, h, .inl (slice_str hr hs rfl e1 hx (fun y hy => hops y (hy.elim .inl (fun h => .inr (.inl h)))) e3 e4 hb.1.1 hb.1.2 (by omega))⟩
      · cases h
    · rename_i el z tk n f e1 e2
      rw [e2] at hx
      split at h
      · rename_i l u m e3 e4 e5
        split at h
        · rename_i hb
          cases hz : sized P el z with
          | false => rw [hz] at h; cases h
          | true =>
            rw [hz] at h
            simp only [cond_true] at h
            cases mx with
            | some my =>
              simp only at h
              cases hmu : (hi.isSome && m == u) with
              | false => rw [hmu] at h; cases h
              | true =>
                rw [hmu] at h
                simp only [Bool.and_eq_true, beq_iff_eq] at hmu
                exact ⟨_, _, h, .inl (slice_sl hr hs rfl e1 hx hops e3 e4 e5 hb hz fun y _ => hmu)⟩
            | none => exact ⟨_, _, h, .inl (slice_sl hr hs rfl e1 hx hops e3 e4 e5 hb hz fun y hy => by cases hy)⟩
        · cases h
      · cases h
    · rename_i el id gen off len e1 e2
      rw [e2] at hx
      split at h
      · rename_i l u z gen' n f e3 e4 e5
        cases hz : (gen == gen' && sized P el z) with
        | false => rw [hz] at h; cases h
        | true =>
          rw [hz] at h
          simp only [Bool.and_eq_true, beq_iff_eq] at hz
          obtain ⟨rfl, hz⟩ := hz
          cases hb : (decide (0 ≤ l) && decide (l ≤ u) && decide (u ≤ len)) with
          | false => rw [hb] at h; cases h
          | true =>
            rw [hb] at h
            simp only [Bool.and_eq_true, decide_eq_true_eq] at hb
            exact ⟨_, _, h, .inl (slice_sr hr hs rfl e1 hx (fun y hy => hops y (hy.elim .inl (fun h => .inr (.inl h)))) e3 e4 ⟨hb.1.1, hb.1.2, hb.2⟩ hz e5)⟩
      · cases h
    · cases h
  case makeSlice t l cp =>
    left
    simp only [opD] at h
    split at h
    · rename_i el n e1 e2
      split at h
      · rename_i z ez
        cases hb : (sameO l cp && decide (0 ≤ n) && roomy n.toNat (P.bytesOf el)) with
        | false => rw [hb] at h; cases h
        | true =>
          rw [hb] at h
          simp only [Bool.and_eq_true, decide_eq_true_eq] at hb
          simp only [cond_true] at h
          obtain ⟨i, h', hn, hk, _⟩ := newD_eq h
          exact ⟨_, _, hk, .inl (makeSlice_sound hr hs rfl (elemOf_some e1) (he l (by simp [Op.operands])) e2 (opsSame hb.1.1) ez hb.1.2 hb.2 hn)⟩
      · cases h
    · cases h
  case load t ad =>
    left
    simp only [opD] at h
    rw [← hs] at h
    obtain ⟨cs, v, h1, h2, h3⟩ := loadK_eq hr h
    obtain ⟨x, h4, h5⟩ := load_gives hr h1 h2 (he ad (by simp [Op.operands]))
    exact ⟨_, _, h3, .inl ⟨x, c, by simp only [execOp, Sem.run_bind, h4, Result.andThen_ok, Sem.run_pure], Step.refl hr hs, h5⟩⟩
  case makeMap t r =>
    left
    simp only [opD] at h
    split at h
    · rename_i kt el e1
      generalize hb : (keyTy P kt && _) = bb at h
      cases bb with
      | false => cases h
      | true =>
        simp only [Bool.and_eq_true] at hb
        simp only [cond_true] at h
        obtain ⟨i, h', hn, hk, _⟩ := newD_eq h
        refine ⟨_, _, hk, .inl (makeMap_sound hr hs rfl e1 (fun x hx => ?_) hn)⟩
        subst hx
        obtain ⟨n, hn⟩ := Option.isSome_iff_exists.1 hb.2
        exact ⟨e x, n, he x (by simp [Op.operands]), hn⟩
    · cases h
  case lookup t m x ok =>
    left
    simp only [opD] at h
    split at h
    · rename_i kt el e1
      split at h
      · rename_i z ez
        obtain ⟨zv, r1, r2⟩ := zeroVal_sound (c := c) (w := c.w) ez
        rw [← hs] at h
        rcases findD_sound (ok := ok) (dst := dst) (ty := ty) (pos := pos) (af := after) (gd := guard) hr e1 r1 r2 (he m (by simp [Op.operands])) (he x (by simp [Op.operands])) h with ⟨u, y, h1, h2, h3⟩ | ⟨h1, h2⟩
        · cases ok with
          | true => exact ⟨_, _, h1, .inl ⟨_, c, h2, Step.refl hr hs, VR.tup2 h3 (.bool _)⟩⟩
          | false => exact ⟨_, _, h1, .inl ⟨_, c, h2, Step.refl hr hs, h3⟩⟩
        · cases ok with
          | true => exact ⟨_, _, h1, .inl ⟨_, c, h2, Step.refl hr hs, VR.tup2 r2 (.bool _)⟩⟩
          | false => exact ⟨_, _, h1, .inl ⟨_, c, h2, Step.refl hr hs, r2⟩⟩
      · cases h
    · cases h
  case mapUpdate t m x y =>
    left
    simp only [opD] at h
    split at h
    · rename_i kt el e1
      rw [← hs] at h
      obtain ⟨h', h1, h2⟩ := layD_sound (o := ⟨dst, .mapUpdate t m x y, ty, pos, after, guard⟩) hr hs (.inl rfl) e1 (he m (by simp [Op.operands])) (he x (by simp [Op.operands])) ((he y (by simp [Op.operands])).coerce) h
      exact ⟨_, _, h1, .inr ⟨rfl, h2⟩⟩
    · cases h
  case insert t m x y =>
    left
    simp only [opD] at h
    split at h
    · rename_i kt el e1
      rw [← hs] at h
      obtain ⟨h', h1, h2⟩ := layD_sound (o := ⟨dst, .insert t m x y, ty, pos, after, guard⟩) hr hs (.inr rfl) e1 (he m (by simp [Op.operands])) (he x (by simp [Op.operands])) ((he y (by simp [Op.operands])).coerce) h
      exact ⟨_, _, h1, .inr ⟨rfl, h2⟩⟩
    · cases h
  case panic x => exact .inr trivial
  case defer d => exact .inr trivial
  case typeAssert x xt asserted ok =>
    left
    have hx := he x (by simp [Op.operands])
    simp only [opD] at h
    split at h
    · cases h
    · rename_i d e2 e1 e3
      cases ok with
      | false => cases h
      | true =>
        simp only [cond_true] at h
        split at h
        · rename_i z ez
          rw [e3] at hx
          obtain ⟨zv, r1, r2⟩ := zeroVal_sound (c := c) (w := c.w) ez
          refine ⟨_, _, h, .inl ⟨.tuple #[zv, .bool false], c, ?_, Step.refl hr hs, VR.tup2 r2 (.bool _)⟩⟩
          generalize hy : a.eval x = y at hx
          cases hx
          simp only [hy, execOp, Instr.typeAssert, Sem.run_bind, run_underlying e1, Result.andThen_ok]
          cases d with
          | interface ms => exact absurd rfl (e2 ms)
          | _ => simp [r1]
        · cases h
    · rename_i d t v e2 e1 e3
      rw [e3] at hx
      generalize hy : a.eval x = y at hx
      cases hx with
      | ifc _ _ xv hv =>
        have hrun : ∀ {r : Value}, (t = asserted → r = if ok then .tuple #[xv, .bool true] else xv) → (t ≠ asserted → ok = true ∧ ∃ zv, (zeroValue asserted).run P c.w = .ok zv c.w ∧ r = .tuple #[zv, .bool false]) →
            (execOp a.eval ⟨dst, .typeAssert x xt asserted ok, ty, pos, after, guard⟩).run P c.w = .ok (.value r) c.w := by
          intro r h1 h2
          simp only [execOp, Instr.typeAssert, Sem.run_bind, run_underlying e1, Result.andThen_ok, hy]
          cases d with
          | interface ms => exact absurd rfl (e2 ms)
          | _ =>
            by_cases ht : t = asserted
            · simp [ht, h1 ht]
            · obtain ⟨rfl, zv, r1, r2⟩ := h2 ht
              simp [ht, r1, r2]
        cases hta : t == asserted with
        | true =>
          rw [hta] at h
          rw [beq_iff_eq] at hta
          cases ok with
          | true => exact ⟨_, _, h, .inl ⟨_, c, hrun (fun _ => rfl) (fun h => absurd hta h), Step.refl hr hs, VR.tup2 hv (.bool _)⟩⟩
          | false => exact ⟨_, _, h, .inl ⟨_, c, hrun (fun _ => rfl) (fun h => absurd hta h), Step.refl hr hs, hv⟩⟩
        | false =>
          rw [hta] at h
          have hta : t ≠ asserted := by simpa using hta
          cases ok with
          | false => cases h
          | true =>
            simp only [cond_true, cond_false] at h
            split at h
            · rename_i z ez
              obtain ⟨zv, r1, r2⟩ := zeroVal_sound (c := c) (w := c.w) ez
              exact ⟨_, _, h, .inl ⟨_, c, hrun (fun h => absurd h hta) (fun _ => ⟨rfl, zv, r1, rfl⟩), Step.refl hr hs, VR.tup2 r2 (.bool _)⟩⟩
            · cases h
    · cases h
  case binOp op t x y rt =>
    left
    have hx := he x (by simp [Op.operands])
    have hy := he y (by simp [Op.operands])
    simp only [opD] at h
    split at h
    · rename_i kk m kk' n e1 e2
      rw [e1] at hx; rw [e2] at hy
      split at h
      · rename_i ek; subst ek
        cases hn : n == 0 with
        | true => rw [hn] at h; cases h
        | false =>
          rw [hn] at h
          have hn : n ≠ 0 := by simpa using hn
          refine ⟨_, _, h, .inl ⟨_, c, ?_, Step.refl hr hs, .int _ _⟩⟩
          simp [execOp, hx.int_inv, hy.int_inv, eqGuard_int, binOp, Op.intDiv, hn]
      · cases h
    · rename_i kk m kk' n e1 e2
      rw [e1] at hx; rw [e2] at hy
      split at h
      · rename_i ek; subst ek
        cases hn : n == 0 with
        | true => rw [hn] at h; cases h
        | false =>
          rw [hn] at h
          have hn : n ≠ 0 := by simpa using hn
          refine ⟨_, _, h, .inl ⟨_, c, ?_, Step.refl hr hs, .int _ _⟩⟩
          simp [execOp, hx.int_inv, hy.int_inv, eqGuard_int, binOp, Op.intDiv, hn]
      · cases h
    · rename_i kk m kk' n e1 e2
      rw [e1] at hx; rw [e2] at hy
      cases hn : decide (n < 0) with
      | true => rw [hn] at h; cases h
      | false =>
        rw [hn] at h
        have hn : ¬ n < 0 := by simpa using hn
        refine ⟨_, _, h, .inl ⟨_, c, ?_, Step.refl hr hs, .int _ _⟩⟩
        simp [execOp, hx.int_inv, hy.int_inv, eqGuard_int, binOp, Op.shift, hn]
    · rename_i kk m kk' n e1 e2
      rw [e1] at hx; rw [e2] at hy
      cases hn : decide (n < 0) with
      | true => rw [hn] at h; cases h
      | false =>
        rw [hn] at h
        have hn : ¬ n < 0 := by simpa using hn
        refine ⟨_, _, h, .inl ⟨_, c, ?_, Step.refl hr hs, .int _ _⟩⟩
        simp [execOp, hx.int_inv, hy.int_inv, eqGuard_int, binOp, Op.shift, hn]
    · rename_i l m e1 e2
      rw [e1] at hx; rw [e2] at hy
      cases hn : decide (l.length + m.length < 1099511627776) with
      | false => rw [hn] at h; cases h
      | true =>
        rw [hn] at h
        simp only [decide_eq_true_eq] at hn
        obtain ⟨s1, f1, g1⟩ := hx.str_inv
        obtain ⟨s2, f2, g2⟩ := hy.str_inv
        refine ⟨_, _, h, .inl ⟨.string (s1 ++ s2), c, ?_, Step.refl hr hs, .str _ _ (by rw [← g1, ← g2]; simp)⟩⟩
        have hlen : ¬ (((s1.size + s2.size : Nat) : Int) > IntKind.i64.max) := by
          have h1 : s1.size = l.length := by rw [← g1]; simp
          have h2 : s2.size = m.length := by rw [← g2]; simp
          have : IntKind.i64.max = 9223372036854775807 := by decide
          rw [this]; omega
        simp only [execOp, f1, f2, Sem.run_bind, eqGuard_str, Result.andThen_ok, binOp, Op.stringOp]
        rw [if_neg hlen]
        simp
    · cases h
  case call cl =>
    obtain ⟨callee, args, argTypes⟩ := cl
    cases callee with
    | value f => exact .inr trivial
    | invoke r n => simp only [opD] at h; cases h
    | builtin b =>
      cases b <;> try (simp only [opD] at h; cases h)
      case recover => exact .inr trivial
      case append =>
        left
        simp only [opD] at h
        split at h
        · rename_i sx xx ts tx e1 e2
          split at h
          · rename_i el ex e3 e4
            cases hz : (sized P el (P.cellsOf el) && (zeroT P el).isSome) with
            | false => rw [hz] at h; cases h
            | true =>
              rw [hz] at h
              simp only [Bool.and_eq_true] at hz
              simp only [cond_true] at h
              split at h
              · rename_i m g e5
                rw [← hs] at e5
                have hargs : args = #[sx, xx] := by rw [← e1]
                obtain ⟨vals, hsrc, hpu⟩ := src_sound hr e5 (he xx (by simp [Op.operands, Call.operands, hargs])) hz.1
                obtain ⟨v, h', hk, hG⟩ := append_sound (ρ := a.eval) (o := ⟨dst, .call ⟨.builtin .append, args, argTypes⟩, ty, pos, after, guard⟩) (k := fun v h => k v { s with h := h }) hr hs rfl rfl e1 e2 (elemOf_some e3) (elemOf_some e4) hz.1
                  (Option.isSome_iff_exists.1 hz.2) hsrc hpu ((he sx (by simp [Op.operands, Call.operands, hargs])).coerce (t := ts)) h
                exact ⟨v, _, hk, .inl hG⟩
              · cases h
          · cases h
        · cases h
  all_goals (simp only [opD] at h; cases h)

end
end Go.Den
