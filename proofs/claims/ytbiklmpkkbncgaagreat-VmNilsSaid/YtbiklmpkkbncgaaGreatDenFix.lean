/- What an operation does, whatever is done behind it. -/
import Derived.Test.YtbiklmpkkbncgaaGreatDenDet
set_option linter.unusedSimpArgs false
set_option linter.unusedVariables false
set_option linter.unnecessarySimpa false
namespace Go.Den
open Go

def CallLe (c c' : CallO) : Prop := ∀ f args h ps o, c f args h ps = some o → c' f args h ps = some o

/-- what t answers, c does -/
def CallLeK (t : CallK) (c : CallO) : Prop := ∀ f args h ps K out, t f args h ps K = some out → ∃ o, K o = some out ∧ c f args h ps = some o

theorem CallLeK.of_le {c c' : CallO} (h : CallLe c c') : CallLeK (bindK c) c' := by
  intro f args hh ps K out e
  simp only [bindK] at e
  cases hc : c f args hh ps with
  | none => rw [hc] at e; cases e
  | some o => rw [hc] at e; exact ⟨o, e, h _ _ _ _ _ hc⟩

def Fix (P : Program) (pol : Pol) (call : CallO) (fn : FuncId) (nw : Option Nat) (e : Operand → AV) (o : Oper) (s : Hs) (k kp : AV → Hs → R) (out : Out) : Prop :=
  (∃ v s', k v s' = some out ∧ ∀ k' kp', opD P pol (bindK call) fn nw e o s k' kp' = k' v s') ∨
  (∃ v s', kp v s' = some out ∧ ∀ k' kp', opD P pol (bindK call) fn nw e o s k' kp' = kp' v s')

section
variable {P : Program}

theorem opD_fix {pol : Pol} {call : CallK} {c : CallO} (hle : CallLeK call c) {fn : FuncId} {nw : Option Nat} {e : Operand → AV} {o : Oper} {s : Hs} {k kp : AV → Hs → R} {out : Out} (h : opD P pol call fn nw e o s k kp = some out) :
    Fix P pol c fn nw e o s k kp out := by
  obtain ⟨dst, op, ty, pos, after, guard⟩ := o
  cases op
  case pick cn x y =>
    simp only [opD] at h
    split at h
    · rename_i t ec
      cases t with
      | true => exact .inl ⟨_, _, h, fun k' kp' => by simp only [opD, ec, cond_true]⟩
      | false => exact .inl ⟨_, _, h, fun k' kp' => by simp only [opD, ec, cond_false]⟩
    · cases h
  case alloc t =>
    simp only [opD] at h
    split at h
    · rename_i cs ez
      obtain ⟨i, h', _, h, hd⟩ := newD_eq h
      exact .inl ⟨_, _, h, fun k' kp' => by simp only [opD, ez, hd]⟩
    · cases h
  case box t x =>
    simp only [opD] at h
    split at h
    · rename_i cs ez
      obtain ⟨i, h', _, h, hd⟩ := newD_eq h
      exact .inl ⟨_, _, h, fun k' kp' => by simp only [opD, ez, hd]⟩
    · cases h
  case buildSlice t len parts =>
    simp only [opD] at h
    split at h
    · rename_i el eel
      split at h
      · rename_i z ps ez ep
        cases hall : (ps.all (fun p => decide (p.1 < len)) && decide (len * P.cellsOf el ≤ 16777216)) with
        | false => rw [hall] at h; cases h
        | true =>
          rw [hall] at h
          simp only [cond_true] at h
          cases hgr : pol.grow fn (dst.getD 0) with
          | true =>
            rw [hgr] at h
            simp only [cond_true] at h
            obtain ⟨i, h', _, h, hd⟩ := newD_eq h
            exact .inl ⟨_, _, h, fun k' kp' => by simp only [opD, eel, ez, ep, hall, hgr, cond_true, hd]⟩
          | false =>
            rw [hgr] at h
            exact .inl ⟨_, _, h, fun k' kp' => by simp only [opD, eel, ez, ep, hall, hgr, cond_true, cond_false]⟩
      · cases h
    · cases h
  case store t ad x =>
    simp only [opD] at h
    split at h
    · rename_i cs ecs
      obtain ⟨h', est, h⟩ := storeK_eq h
      exact .inl ⟨_, _, h, fun k' kp' => by simp only [opD, ecs]; rw [storeK_of est]⟩
    · cases h
  case indexAddr t x ix =>
    simp only [opD] at h
    split at h
    · rename_i el z tk n f i e1 e2 e3
      split at h
      · rename_i hb
        cases hz : sized P el z with
        | false => rw [hz] at h; cases h
        | true =>
          rw [hz] at h
          have h2 := castCs_det (K := fun row => k (.pp row 0) s) h
          have h := castCs_eq (K := fun row => k (.pp row 0) s) h
          exact .inl ⟨_, _, h, fun k' kp' => by
            simp only [opD, e1, e2, e3, hz, cond_true]
            rw [dif_pos hb]
            exact h2 fun row => k' (.pp row 0) s⟩
      · cases h
    · rename_i el id gen off len i e1 e2 e3
      split at h
      · rename_i z gen' n f e4
        cases hz : (gen == gen' && sized P el z) with
        | false => rw [hz] at h; cases h
        | true =>
          rw [hz] at h
          cases hb : (decide (0 ≤ i) && decide (i.toNat < len)) with
          | false => rw [hb] at h; cases h
          | true =>
            rw [hb] at h
            exact .inl ⟨_, _, h, fun k' kp' => by simp only [opD, e1, e2, e3, e4, hz, hb, cond_true]⟩
      · cases h
    · rename_i n el id gen row q i e1 e2 e3
      cases hz : (standing s.h (.ptr id gen row q) && sized P el (P.cellsOf el)) with
      | false => rw [hz] at h; cases h
      | true =>
        rw [hz] at h
        cases hb : (decide (0 ≤ i) && decide (i.toNat < n)) with
        | false => rw [hb] at h; cases h
        | true =>
          rw [hb] at h
          exact .inl ⟨_, _, h, fun k' kp' => by simp only [opD, e1, e2, e3, hz, hb, cond_true]⟩
    · rename_i n el row q i e1 e2 e3
      cases hb : (decide (0 ≤ i) && decide (i.toNat < n) && sized P el (P.cellsOf el)) with
      | false => rw [hb] at h; cases h
      | true =>
        rw [hb] at h
        exact .inl ⟨_, _, h, fun k' kp' => by simp only [opD, e1, e2, e3, hb, cond_true]⟩
    · cases h
  case index t x ix =>
    simp only [opD] at h
    split at h
    · rename_i b i e1 e2 e3
      split at h
      · rename_i hb
        exact .inl ⟨_, _, h, fun k' kp' => by
          simp only [opD, e1, e2, e3]
          rw [dif_pos hb]⟩
      · cases h
    · rename_i n el cs i e1 e2 e3
      cases hb : (decide (0 ≤ i) && decide (i.toNat < n) && sized P el (P.cellsOf el)) with
      | false => rw [hb] at h; cases h
      | true =>
        rw [hb] at h
        simp only [cond_true] at h
        split at h
        · rename_i v ev
          exact .inl ⟨_, _, h, fun k' kp' => by simp only [opD, e1, e2, e3, hb, cond_true, ev]⟩
        · cases h
    · cases h
  case slice t x lo hi mx =>
    simp only [opD] at h
    split at h
    · rename_i b e1 e2
      split at h
      · rename_i l u e3 e4
        cases hb : (decide (0 ≤ l) && decide (l ≤ u) && decide (u ≤ b.length)) with
        | false => rw [hb] at h; cases h
        | true =>
          rw [hb] at h
          exact .inl ⟨_, _, h, fun k' kp' => by simp only [opD, e1, e2, e3, e4, hb, cond_true]⟩
      · cases h
    · rename_i el z tk n f e1 e2
      split at h
      · rename_i l u m e3 e4 e5
        split at h
        · rename_i hb
          cases hz : sized P el z with
          | false => rw [hz] at h; cases h
          | true =>
            rw [hz] at h
            simp only [cond_true] at h
            cases mx with
            | some my =>
              simp only at h
              cases hmu : (hi.isSome && m == u) with
              | false => rw [hmu] at h; cases h
              | true =>
                rw [hmu] at h
                exact .inl ⟨_, _, h, fun k' kp' => by
                  simp only [opD, e1, e2, e3, e4, e5, hz, hmu, cond_true]
                  rw [dif_pos hb]⟩
            | none =>
              exact .inl ⟨_, _, h, fun k' kp' => by
                simp only [opD, e1, e2, e3, e4, e5, hz, cond_true]
                rw [dif_pos hb]⟩
        · cases h
      · cases h
    · rename_i el id gen off len e1 e2
      split at h
      · rename_i l u z gen' n f e3 e4 e5
        cases hz : (gen == gen' && sized P el z) with
        | false => rw [hz] at h; cases h
        | true =>
          rw [hz] at h
          cases hb : (decide (0 ≤ l) && decide (l ≤ u) && decide (u ≤ len)) with
          | false => rw [hb] at h; cases h
          | true =>
            rw [hb] at h
            exact .inl ⟨_, _, h, fun k' kp' => by simp only [opD, e1, e2, e3, e4, e5, hz, hb, cond_true]⟩
      · cases h
    · cases h
  case makeSlice t l cp =>
    simp only [opD] at h
    split at h
    · rename_i el n e1 e2
      split at h
      · rename_i z ez
        cases hb : (sameO l cp && decide (0 ≤ n) && roomy n.toNat (P.bytesOf el)) with
        | false => rw [hb] at h; cases h
        | true =>
          rw [hb] at h
          simp only [cond_true] at h
          obtain ⟨i, h', _, h, hd⟩ := newD_eq h
          exact .inl ⟨_, _, h, fun k' kp' => by simp only [opD, e1, e2, ez, hb, cond_true, hd]⟩
      · cases h
    · cases h
  case load t ad =>
    simp only [opD] at h
    obtain ⟨i, gen, row, off, o, v, _, hi, h1, h2⟩ := loadK_det h
    exact .inl ⟨_, _, h1, fun k' kp' => by simp only [opD]; rw [h2 _ hi]⟩
  case makeMap t r =>
    simp only [opD] at h
    split at h
    · rename_i kt el e1
      generalize hb : (keyTy P kt && _) = bb at h
      cases bb with
      | false => cases h
      | true =>
        simp only [cond_true] at h
        obtain ⟨i, h', _, h, hd⟩ := newD_eq h
        exact .inl ⟨_, _, h, fun k' kp' => by simp only [opD, e1, hb, cond_true, hd]⟩
    · cases h
  case lookup t m x ok =>
    simp only [opD] at h
    split at h
    · rename_i kt el e1
      split at h
      · rename_i z ez
        rcases findD_eq h with ⟨u, h1, h2⟩ | ⟨h1, h2⟩
        · cases ok with
          | true => exact .inl ⟨_, _, h1, fun k' kp' => by simp only [opD, e1, ez, h2, cond_true]⟩
          | false => exact .inl ⟨_, _, h1, fun k' kp' => by simp only [opD, e1, ez, h2, cond_false]⟩
        · cases ok with
          | true => exact .inl ⟨_, _, h1, fun k' kp' => by simp only [opD, e1, ez, h2, cond_true]⟩
          | false => exact .inl ⟨_, _, h1, fun k' kp' => by simp only [opD, e1, ez, h2, cond_false]⟩
      · cases h
    · cases h
  case mapUpdate t m x y =>
    simp only [opD] at h
    split at h
    · rename_i kt el e1
      obtain ⟨i, o₀, o, _, hi, _, _, h1, h2⟩ := layD_eq h
      exact .inl ⟨_, _, h1, fun k' kp' => by simp only [opD, e1]; rw [h2 _ hi]⟩
    · cases h
  case insert t m x y =>
    simp only [opD] at h
    split at h
    · rename_i kt el e1
      obtain ⟨i, o₀, o, _, hi, _, _, h1, h2⟩ := layD_eq h
      exact .inl ⟨_, _, h1, fun k' kp' => by simp only [opD, e1]; rw [h2 _ hi]⟩
    · cases h
  case panic x =>
    simp only [opD] at h
    split at h
    · rename_i t v ev
      exact .inr ⟨_, _, h, fun k' kp' => by simp only [opD, ev]⟩
    · cases h
  case defer cl =>
    simp only [opD] at h
    split at h
    · rename_i f ecal
      split at h
      · rename_i g cap ef
        cases hsz : (cl.args.size == 0 && nw.isNone) with
        | false => rw [hsz] at h; cases h
        | true =>
          rw [hsz] at h
          exact .inl ⟨_, _, h, fun k' kp' => by simp only [opD, ecal, ef, hsz, cond_true]⟩
      · cases h
    · cases h
  case typeAssert x xt asserted ok =>
    simp only [opD] at h
    split at h
    · cases h
    · rename_i d e2 e1 e3
      cases ok with
      | false => cases h
      | true =>
        simp only [cond_true] at h
        split at h
        · rename_i z ez
          exact .inl ⟨_, _, h, fun k' kp' => by
            simp only [opD, e1, e3, cond_true, ez]⟩
        · cases h
    · rename_i d t v e2 e1 e3
      cases hta : t == asserted with
      | true =>
        rw [hta] at h
        cases ok with
        | true => exact .inl ⟨_, _, h, fun k' kp' => by simp only [opD, e1, e3, hta, cond_true]⟩
        | false => exact .inl ⟨_, _, h, fun k' kp' => by simp only [opD, e1, e3, hta, cond_true, cond_false]⟩
      | false =>
        rw [hta] at h
        cases ok with
        | false => cases h
        | true =>
          simp only [cond_true, cond_false] at h
          split at h
          · rename_i z ez
            exact .inl ⟨_, _, h, fun k' kp' => by simp only [opD, e1, e3, hta, cond_true, cond_false, ez]⟩
          · cases h
    · cases h
  case binOp op t x y rt =>
    simp only [opD] at h
    split at h
    · rename_i kk m kk' n e1 e2
      split at h
      · rename_i ek; subst ek
        cases hn : n == 0 with
        | true => rw [hn] at h; cases h
        | false => rw [hn] at h; exact .inl ⟨_, _, h, fun k' kp' => by simp only [opD, e1, e2, if_true, hn, cond_false]⟩
      · cases h
    · rename_i kk m kk' n e1 e2
      split at h
      · rename_i ek; subst ek
        cases hn : n == 0 with
        | true => rw [hn] at h; cases h
        | false => rw [hn] at h; exact .inl ⟨_, _, h, fun k' kp' => by simp only [opD, e1, e2, if_true, hn, cond_false]⟩
      · cases h
    · rename_i kk m kk' n e1 e2
      cases hn : decide (n < 0) with
      | true => rw [hn] at h; cases h
      | false => rw [hn] at h; exact .inl ⟨_, _, h, fun k' kp' => by simp only [opD, e1, e2, hn, cond_false]⟩
    · rename_i kk m kk' n e1 e2
      cases hn : decide (n < 0) with
      | true => rw [hn] at h; cases h
      | false => rw [hn] at h; exact .inl ⟨_, _, h, fun k' kp' => by simp only [opD, e1, e2, hn, cond_false]⟩
    · rename_i l m e1 e2
      cases hn : decide (l.length + m.length < 1099511627776) with
      | false => rw [hn] at h; cases h
      | true => rw [hn] at h; exact .inl ⟨_, _, h, fun k' kp' => by simp only [opD, e1, e2, hn, cond_true]⟩
    · cases h
  case call cl =>
    obtain ⟨callee, args, argTypes⟩ := cl
    cases callee with
    | value f =>
      simp only [opD] at h
      cases ecl : cloneOf P f with
      | some el =>
        rw [ecl] at h
        simp only at h
        split at h
        · rename_i x e1
          cases hz : (sized P el (P.cellsOf el) && (zeroT P el).isSome) with
          | false => rw [hz] at h; cases h
          | true =>
            rw [hz] at h
            simp only [cond_true] at h
            split at h
            · rename_i m g e5
              have hap : ∃ v h', k v { s with h := h' } = some out ∧ ∀ kk : AV → List Den.Obj → R, cloneD nw s.h (pol.grow fn (dst.getD 0)) (P.cellsOf el) (P.bytesOf el) m g kk = kk v h' := cloneD_det h
              obtain ⟨v, h', hk, hd⟩ := hap
              exact .inl ⟨v, _, hk, fun k' kp' => by
                simp only [opD, ecl, e1, hz, cond_true, e5]
                exact hd fun v h => k' v { s with h := h }⟩
            · cases h
        · cases h
      | none =>
      rw [ecl] at h
      simp only at h
      split at h
      · rename_i g cap ef
        split at h
        · rename_i gf egf
          cases hbody : gf.body.isNone with
          | true => rw [hbody] at h; cases h
          | false =>
            rw [hbody] at h
            simp only [cond_false] at h
            split at h
            · rename_i args' eargs
              obtain ⟨out', h, hr⟩ := hle _ _ _ _ _ _ h
              cases out' with
              | ret v h' ps' =>
                simp only [onOut] at h
                have hd := castR_det (K := fun v => k (freeze 0 [] v) s) h
                exact .inl ⟨_, _, castR_eq (K := fun v => k (freeze 0 [] v) s) h, fun k' kp' => by
                  simp only [opD, bindK, ecl, ef, egf, hbody, cond_false, eargs, hr, onOut]
                  exact hd fun v => k' (freeze 0 [] v) s⟩
              | pan v h' ps' =>
                simp only [onOut] at h
                exact .inr ⟨_, _, h, fun k' kp' => by
                  simp only [opD, bindK, ecl, ef, egf, hbody, cond_false, eargs, hr, onOut]⟩
            · rename_i eargs
              obtain ⟨out', h, hr⟩ := hle _ _ _ _ _ _ h
              cases out' with
              | ret v h' ps' =>
                simp only [onOut] at h
                have hd := castR_det (K := fun v => k v { s with h := h' }) h
                exact .inl ⟨_, _, castR_eq (K := fun v => k v { s with h := h' }) h, fun k' kp' => by
                  simp only [opD, bindK, ecl, ef, egf, hbody, cond_false, eargs, hr, onOut]
                  exact hd fun v => k' v { s with h := h' }⟩
              | pan v h' ps' =>
                simp only [onOut] at h
                exact .inr ⟨_, _, h, fun k' kp' => by
                  simp only [opD, bindK, ecl, ef, egf, hbody, cond_false, eargs, hr, onOut]⟩
        · cases h
      · cases h
    | invoke r n => simp only [opD] at h; cases h
    | builtin b =>
      cases b <;> try (simp only [opD] at h; cases h)
      case recover =>
        simp only [opD] at h
        cases nw with
        | some n => cases h
        | none =>
        simp only [Option.isSome_none, cond_false] at h
        split at h
        · rename_i v eps; exact .inl ⟨_, _, h, fun k' kp' => by simp only [opD, eps, Option.isSome_none, cond_false]⟩
        · rename_i hne
          refine .inl ⟨_, _, h, fun k' kp' => ?_⟩
          simp only [opD, Option.isSome_none, cond_false]
      case append =>
        simp only [opD] at h
        split at h
        · rename_i sx xx ts tx e1 e2
          split at h
          · rename_i el ex e3 e4
            cases hz : (sized P el (P.cellsOf el) && (zeroT P el).isSome) with
            | false => rw [hz] at h; cases h
            | true =>
              rw [hz] at h
              simp only [cond_true] at h
              split at h
              · rename_i m g e5
                have hap : ∃ v h', k v { s with h := h' } = some out ∧ ∀ kk : AV → List Den.Obj → R, appendD nw s.h (pol.grow fn (dst.getD 0)) (P.cellsOf el) (P.bytesOf el) (coerce P ts (e sx)) m g kk = kk v h' := appendD_det h
                obtain ⟨v, h', hk, hd⟩ := hap
                exact .inl ⟨v, _, hk, fun k' kp' => by
                  simp only [opD, e1, e2, e3, e4, hz, cond_true, e5]
                  exact hd fun v h => k' v { s with h := h }⟩
              · cases h
          · cases h
        · cases h
  all_goals (simp only [opD] at h; cases h)


theorem opD_kp {pol : Pol} {call : CallK} {fn : FuncId} {nw : Option Nat} {e : Operand → AV} {o : Oper} {s : Hs} {k kp kp' : AV → Hs → R} (h : mayPan o = false) : opD P pol call fn nw e o s k kp = opD P pol call fn nw e o s k kp' := by
  obtain ⟨dst, op, ty, pos, after, guard⟩ := o
  cases op
  case panic x => cases h
  case call cl =>
    obtain ⟨callee, args, argTypes⟩ := cl
    cases callee with
    | value f => cases h
    | invoke r n => rfl
    | builtin b => cases b <;> rfl
  all_goals rfl

/-- an operation of an open order: what it comes to -/
theorem opD_either {pol : Pol} {call : CallO} {fn : FuncId} {nw : Option Nat} {e : Operand → AV} {o : Oper} {s : Hs} {k kp : AV → Hs → R} {out : Out} (h : opD P pol (bindK call) fn nw e o s k kp = some out) :
    (∃ v s', k v s' = some out ∧ ∀ k' kp', opD P pol (bindK call) fn nw e o s k' kp' = k' v s') ∨ (mayPan o = true ∧ ∃ v s', kp v s' = some out ∧ ∀ k' kp', opD P pol (bindK call) fn nw e o s k' kp' = kp' v s') := by
  rcases opD_fix (CallLeK.of_le fun _ _ _ _ _ h => h) h with ⟨v, s', h1, h2⟩ | ⟨v, s', h1, h2⟩
  · exact .inl ⟨v, s', h1, h2⟩
  · right
    refine ⟨?_, v, s', h1, h2⟩
    cases hm : mayPan o with
    | true => rfl
    | false =>
      have e1 := h2 (fun _ _ => none) fun _ _ => none
      have e2 := h2 (fun _ _ => none) fun _ _ => some out
      rw [opD_kp hm (kp' := fun _ _ => none)] at e2
      rw [e1] at e2
      cases e2

end
end Go.Den
