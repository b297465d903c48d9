/- What an operation comes to does not hang on what follows. -/
import Derived.Test.YtndanoiaheknaaaGreatDenOps16
set_option linter.unusedSimpArgs false
set_option linter.unusedVariables false
namespace Go.Den
open Go

section
variable {P : Program}

theorem castC_det {kd : Kd} {v : AV} {K : AV → R} {o : Out} (h : castC kd v K = some o) : ∀ K' : AV → R, castC kd v K' = K' v := by
  intro K'
  unfold castC at h ⊢
  cases kd <;> cases v <;> simp only at h ⊢
  case int.int k k' n =>
    by_cases e : k' = k
    · subst e; simp
    · rw [if_neg e] at h; cases h
  case sl.sl z z' t n f =>
    by_cases e : z' = z
    · subst e; simp
    · rw [if_neg e] at h; cases h
  all_goals first | rfl | cases h

theorem castCs_det : ∀ {kds : List Kd} {vs : List AV} {K : List AV → R} {o : Out}, castCs kds vs K = some o → ∀ K' : List AV → R, castCs kds vs K' = K' vs
  | [], [], K, o, h, K' => rfl
  | [], _ :: _, K, o, h, _ => by cases h
  | _ :: _, [], K, o, h, _ => by cases h
  | kd :: kds, v :: vs, K, o, h, K' => by
    simp only [castCs] at h ⊢
    rw [castC_det h (fun v' => castCs kds vs fun vs' => K' (v' :: vs'))]
    exact castCs_det (K := fun vs' => K (v :: vs')) (castC_eq h) fun vs' => K' (v :: vs')

theorem castV_det {t : TypeId} {v : AV} {K : AV → R} {o : Out} (h : castV P t v K = some o) : ∀ K' : AV → R, castV P t v K' = K' v := by
  intro K'
  unfold castV at h ⊢
  cases hg : isAggD P t with
  | true =>
    rw [hg] at h
    simp only [cond_true] at h ⊢
    cases v <;> simp only at h ⊢
    case agg cs => exact castCs_det h fun cs' => K' (.agg cs')
    all_goals cases h
  | false =>
    rw [hg] at h
    exact castC_det h K'

theorem castVs_det : ∀ {ts : List TypeId} {vs : List AV} {K : List AV → R} {o : Out}, castVs P ts vs K = some o → ∀ K' : List AV → R, castVs P ts vs K' = K' vs
  | [], [], K, o, h, K' => rfl
  | [], _ :: _, K, o, h, _ => by cases h
  | _ :: _, [], K, o, h, _ => by cases h
  | t :: ts, v :: vs, K, o, h, K' => by
    simp only [castVs] at h ⊢
    rw [castV_det h (fun v' => castVs P ts vs fun vs' => K' (v' :: vs'))]
    exact castVs_det (K := fun vs' => K (v :: vs')) (castV_eq h) fun vs' => K' (v :: vs')

theorem castR_det {ts : List TypeId} {v : AV} {K : AV → R} {o : Out} (h : castR P ts v K = some o) : ∀ K' : AV → R, castR P ts v K' = K' v := by
  intro K'
  unfold castR at h ⊢
  split at h
  · exact castV_det h K'
  · split at h
    · rename_i vs; exact castVs_det (K := fun vs' => K (.tup vs')) h fun vs' => K' (.tup vs')
    · cases h

theorem appendD_det {h : List Den.Obj} {mt : Bool} {z bytes : Nat} {s : AV} {m : Nat} {g : Fin m → Row} {k : AV → List Den.Obj → R} {out : Out} (e : appendD h mt z bytes s m g k = some out) :
    ∃ v h', k v h' = some out ∧ ∀ kk : AV → List Den.Obj → R, appendD h mt z bytes s m g kk = kk v h' := by
  unfold appendD at e ⊢
  split at e
  · rename_i z' t n f
    cases hc : (z' == z && roomy (n + m) bytes) with
    | false => rw [hc] at e; cases e
    | true =>
      rw [hc] at e
      simp only [cond_true] at e ⊢
      cases t with
      | no => cases e
      | tight =>
        cases mt with
        | true =>
          simp only [cond_true] at e ⊢
          cases hm : m == 0 with
          | true => rw [hm] at e; exact ⟨_, _, e, fun kk => rfl⟩
          | false => rw [hm] at e; exact ⟨_, _, e, fun kk => rfl⟩
        | false => exact ⟨_, _, e, fun kk => rfl⟩
      | id i =>
        simp only at e ⊢
        split at e
        · rename_i n' hob
          cases hn : n' == n with
          | false => rw [hn] at e; cases e
          | true => rw [hn] at e; exact ⟨_, _, e, fun kk => by simp only [hob, hn, cond_true]⟩
        · cases e
  · cases e

def Det (P : Program) (pol : Pol) (call : CallO) (fn : FuncId) (e : Operand → AV) (o : Oper) (s : Hs) (k : AV → Hs → R) (out : Out) : Prop :=
  ∃ v s', k v s' = some out ∧ (clsOf o ≠ .eff → s' = s) ∧ ∀ k' kp', opD P pol (bindK call) fn true e o s k' kp' = k' v s'

theorem opD_det {pol : Pol} {call : CallO} {fn : FuncId} {e : Operand → AV} {o : Oper} {s : Hs} {k : AV → Hs → R} {out : Out} (h : opD P pol (bindK call) fn true e o s k (fun _ _ => none) = some out) :
    Det P pol call fn e o s k out := by
  obtain ⟨dst, op, ty, pos, after, guard⟩ := o
  cases op
  case pick cn x y =>
    simp only [opD] at h
    split at h
    · rename_i t ec
      cases t with
      | true => exact ⟨_, _, h, fun _ => rfl, fun k' kp' => by simp only [opD, ec, cond_true]⟩
      | false => exact ⟨_, _, h, fun _ => rfl, fun k' kp' => by simp only [opD, ec, cond_false]⟩
    · cases h
  case alloc t =>
    simp only [opD] at h
    split at h
    · rename_i cs ez; exact ⟨_, _, h, fun hn => absurd rfl hn, fun k' kp' => by simp only [opD, ez]⟩
    · cases h
  case box t x =>
    simp only [opD] at h
    split at h
    · rename_i cs ez; exact ⟨_, _, h, fun hn => absurd rfl hn, fun k' kp' => by simp only [opD, ez]⟩
    · cases h
  case buildSlice t len parts =>
    simp only [opD] at h
    split at h
    · rename_i el eel
      split at h
      · rename_i z ps ez ep
        cases hall : (ps.all (fun p => decide (p.1 < len)) && decide (len * P.cellsOf el ≤ 16777216)) with
        | false => rw [hall] at h; cases h
        | true =>
          rw [hall] at h
          exact ⟨_, _, h, fun _ => rfl, fun k' kp' => by simp only [opD, eel, ez, ep, hall, cond_true]⟩
      · cases h
    · cases h
  case store t ad x =>
    simp only [opD] at h
    split at h
    · rename_i cs ecs
      split at h
      · rename_i h' est
        exact ⟨_, _, h, fun hn => absurd rfl hn, fun k' kp' => by simp only [opD, ecs, est]⟩
      · cases h
    · cases h
  case indexAddr t x ix =>
    simp only [opD] at h
    split at h
    · rename_i el z tk n f i e1 e2 e3
      split at h
      · rename_i hb
        cases hz : sized P el z with
        | false => rw [hz] at h; cases h
        | true =>
          rw [hz] at h
          have h2 := castCs_det (K := fun row => k (.pp row 0) s) h
          have h := castCs_eq (K := fun row => k (.pp row 0) s) h
          exact ⟨_, _, h, fun _ => rfl, fun k' kp' => by
            simp only [opD, e1, e2, e3, hz, cond_true]
            rw [dif_pos hb]
            exact h2 fun row => k' (.pp row 0) s⟩
      · cases h
    · rename_i el id gen off len i e1 e2 e3
      split at h
      · rename_i z gen' n f e4
        cases hz : (gen == gen' && sized P el z) with
        | false => rw [hz] at h; cases h
        | true =>
          rw [hz] at h
          cases hb : (decide (0 ≤ i) && decide (i.toNat < len)) with
          | false => rw [hb] at h; cases h
          | true =>
            rw [hb] at h
            exact ⟨_, _, h, fun _ => rfl, fun k' kp' => by simp only [opD, e1, e2, e3, e4, hz, hb, cond_true]⟩
      · cases h
    · rename_i n el id gen row q i e1 e2 e3
      cases hz : (standing s.h (.ptr id gen row q) && sized P el (P.cellsOf el)) with
      | false => rw [hz] at h; cases h
      | true =>
        rw [hz] at h
        cases hb : (decide (0 ≤ i) && decide (i.toNat < n)) with
        | false => rw [hb] at h; cases h
        | true =>
          rw [hb] at h
          exact ⟨_, _, h, fun _ => rfl, fun k' kp' => by simp only [opD, e1, e2, e3, hz, hb, cond_true]⟩
    · rename_i n el row q i e1 e2 e3
      cases hb : (decide (0 ≤ i) && decide (i.toNat < n) && sized P el (P.cellsOf el)) with
      | false => rw [hb] at h; cases h
      | true =>
        rw [hb] at h
        exact ⟨_, _, h, fun _ => rfl, fun k' kp' => by simp only [opD, e1, e2, e3, hb, cond_true]⟩
    · cases h
  case index t x ix =>
    simp only [opD] at h
    split at h
    · rename_i b i e1 e2 e3
      split at h
      · rename_i hb
        exact ⟨_, _, h, fun _ => rfl, fun k' kp' => by
          simp only [opD, e1, e2, e3]
          rw [dif_pos hb]⟩
      · cases h
    · rename_i n el cs i e1 e2 e3
      cases hb : (decide (0 ≤ i) && decide (i.toNat < n) && sized P el (P.cellsOf el)) with
      | false => rw [hb] at h; cases h
      | true =>
        rw [hb] at h
        simp only [cond_true] at h
        split at h
        · rename_i v ev
          exact ⟨_, _, h, fun _ => rfl, fun k' kp' => by simp only [opD, e1, e2, e3, hb, cond_true, ev]⟩
        · cases h
    · cases h
  case slice t x lo hi mx =>
    simp only [opD] at h
    split at h
    · rename_i b e1 e2
      split at h
      · rename_i l u e3 e4
        cases hb : (decide (0 ≤ l) && decide (l ≤ u) && decide (u ≤ b.length)) with
        | false => rw [hb] at h; cases h
        | true =>
          rw [hb] at h
          exact ⟨_, _, h, fun _ => rfl, fun k' kp' => by simp only [opD, e1, e2, e3, e4, hb, cond_true]⟩
      · cases h
    · rename_i el z tk n f e1 e2
      split at h
      · rename_i l u m e3 e4 e5
        split at h
        · rename_i hb
          cases hz : sized P el z with
          | false => rw [hz] at h; cases h
          | true =>
            rw [hz] at h
            simp only [cond_true] at h
            cases mx with
            | some my =>
              simp only at h
              cases hmu : (hi.isSome && m == u) with
              | false => rw [hmu] at h; cases h
              | true =>
                rw [hmu] at h
                exact ⟨_, _, h, fun _ => rfl, fun k' kp' => by
                  simp only [opD, e1, e2, e3, e4, e5, hz, hmu, cond_true]
                  rw [dif_pos hb]⟩
            | none =>
              exact ⟨_, _, h, fun _ => rfl, fun k' kp' => by
                simp only [opD, e1, e2, e3, e4, e5, hz, cond_true]
                rw [dif_pos hb]⟩
        · cases h
      · cases h
    · rename_i el id gen off len e1 e2
      split at h
      · rename_i l u z gen' n f e3 e4 e5
        cases hz : (gen == gen' && sized P el z) with
        | false => rw [hz] at h; cases h
        | true =>
          rw [hz] at h
          cases hb : (decide (0 ≤ l) && decide (l ≤ u) && decide (u ≤ len)) with
          | false => rw [hb] at h; cases h
          | true =>
            rw [hb] at h
            exact ⟨_, _, h, fun _ => rfl, fun k' kp' => by simp only [opD, e1, e2, e3, e4, e5, hz, hb, cond_true]⟩
      · cases h
    · cases h
  case makeSlice t l cp =>
    simp only [opD] at h
    split at h
    · rename_i el n e1 e2
      split at h
      · rename_i z ez
        cases hb : (sameO l cp && decide (0 ≤ n) && roomy n.toNat (P.bytesOf el)) with
        | false => rw [hb] at h; cases h
        | true =>
          rw [hb] at h
          exact ⟨_, _, h, fun hn => absurd rfl hn, fun k' kp' => by simp only [opD, e1, e2, ez, hb, cond_true]⟩
      · cases h
    · cases h
  case panic x =>
    simp only [opD] at h
    split at h <;> cases h
  case defer cl =>
    simp only [opD] at h
    split at h
    · rename_i f ecal
      split at h
      · rename_i g cap ef
        cases hsz : cl.args.size == 0 with
        | false => rw [hsz] at h; cases h
        | true =>
          rw [hsz] at h
          exact ⟨_, _, h, fun hn => absurd rfl hn, fun k' kp' => by simp only [opD, ecal, ef, hsz, cond_true]⟩
      · cases h
    · cases h
  case typeAssert x xt asserted ok =>
    simp only [opD] at h
    split at h
    · cases h
    · rename_i d e2 e1 e3
      cases ok with
      | false => cases h
      | true =>
        simp only [cond_true] at h
        split at h
        · rename_i z ez
          exact ⟨_, _, h, fun _ => rfl, fun k' kp' => by
            simp only [opD, e1, e3, cond_true, ez]⟩
        · cases h
    · rename_i d t v e2 e1 e3
      cases hta : t == asserted with
      | true =>
        rw [hta] at h
        cases ok with
        | true => exact ⟨_, _, h, fun _ => rfl, fun k' kp' => by simp only [opD, e1, e3, hta, cond_true]⟩
        | false => exact ⟨_, _, h, fun _ => rfl, fun k' kp' => by simp only [opD, e1, e3, hta, cond_true, cond_false]⟩
      | false =>
        rw [hta] at h
        cases ok with
        | false => cases h
        | true =>
          simp only [cond_true, cond_false] at h
          split at h
          · rename_i z ez
            exact ⟨_, _, h, fun _ => rfl, fun k' kp' => by simp only [opD, e1, e3, hta, cond_true, cond_false, ez]⟩
          · cases h
    · cases h
  case binOp op t x y rt =>
    simp only [opD] at h
    split at h
    · rename_i kk m kk' n e1 e2
      split at h
      · rename_i ek; subst ek
        cases hn : n == 0 with
        | true => rw [hn] at h; cases h
        | false => rw [hn] at h; exact ⟨_, _, h, fun _ => rfl, fun k' kp' => by simp only [opD, e1, e2, if_true, hn, cond_false]⟩
      · cases h
    · rename_i kk m kk' n e1 e2
      split at h
      · rename_i ek; subst ek
        cases hn : n == 0 with
        | true => rw [hn] at h; cases h
        | false => rw [hn] at h; exact ⟨_, _, h, fun _ => rfl, fun k' kp' => by simp only [opD, e1, e2, if_true, hn, cond_false]⟩
      · cases h
    · rename_i kk m kk' n e1 e2
      cases hn : decide (n < 0) with
      | true => rw [hn] at h; cases h
      | false => rw [hn] at h; exact ⟨_, _, h, fun _ => rfl, fun k' kp' => by simp only [opD, e1, e2, hn, cond_false]⟩
    · rename_i kk m kk' n e1 e2
      cases hn : decide (n < 0) with
      | true => rw [hn] at h; cases h
      | false => rw [hn] at h; exact ⟨_, _, h, fun _ => rfl, fun k' kp' => by simp only [opD, e1, e2, hn, cond_false]⟩
    · rename_i l m e1 e2
      cases hn : decide (l.length + m.length < 1099511627776) with
      | false => rw [hn] at h; cases h
      | true => rw [hn] at h; exact ⟨_, _, h, fun _ => rfl, fun k' kp' => by simp only [opD, e1, e2, hn, cond_true]⟩
    · cases h
  case call cl =>
    obtain ⟨callee, args, argTypes⟩ := cl
    cases callee with
    | value f =>
      simp only [opD, bindK] at h
      split at h
      · rename_i g cap ef
        split at h
        · rename_i gf egf
          cases hbody : gf.body.isNone with
          | true => rw [hbody] at h; cases h
          | false =>
            rw [hbody] at h
            simp only [cond_false] at h
            split at h
            · rename_i args' eargs
              cases hr : call g args' [] .plain with
              | none => rw [hr] at h; cases h
              | some out' =>
                rw [hr] at h
                cases out' with
                | ret v h' ps' =>
                  simp only [onOut] at h
                  have hd := castR_det (K := fun v => k (freeze 0 [] v) s) h
                  exact ⟨_, _, castR_eq (K := fun v => k (freeze 0 [] v) s) h, fun _ => rfl, fun k' kp' => by
                    simp only [opD, bindK, ef, egf, hbody, cond_false, eargs, hr, onOut]
                    exact hd fun v => k' (freeze 0 [] v) s⟩
                | pan v h' ps' => simp only [onOut] at h; cases h
            · cases h
        · cases h
      · cases h
    | invoke r n => simp only [opD] at h; cases h
    | builtin b =>
      cases b <;> try (simp only [opD] at h; cases h)
      case recover =>
        simp only [opD] at h
        split at h
        · rename_i v eps; exact ⟨_, _, h, fun hn => absurd rfl hn, fun k' kp' => by simp only [opD, eps]⟩
        · rename_i hne
          refine ⟨_, _, h, fun hn => absurd rfl hn, fun k' kp' => ?_⟩
          simp only [opD]
      case append =>
        simp only [opD] at h
        split at h
        · rename_i sx xx ts tx e1 e2
          split at h
          · rename_i el ex e3 e4
            cases hz : (sized P el (P.cellsOf el) && (zeroT P el).isSome) with
            | false => rw [hz] at h; cases h
            | true =>
              rw [hz] at h
              simp only [cond_true] at h
              split at h
              · rename_i m g e5
                have hap : ∃ v h', k v { s with h := h' } = some out ∧ ∀ kk : AV → List Den.Obj → R, appendD s.h (pol.grow fn (dst.getD 0)) (P.cellsOf el) (P.bytesOf el) (coerce P ts (e sx)) m g kk = kk v h' := appendD_det h
                obtain ⟨v, h', hk, hd⟩ := hap
                exact ⟨v, _, hk, fun hn => absurd rfl hn, fun k' kp' => by
                  simp only [opD, e1, e2, e3, e4, hz, cond_true, e5]
                  exact hd fun v h => k' v { s with h := h }⟩
              · cases h
          · cases h
        · cases h
  all_goals (simp only [opD] at h; cases h)

end
end Go.Den
