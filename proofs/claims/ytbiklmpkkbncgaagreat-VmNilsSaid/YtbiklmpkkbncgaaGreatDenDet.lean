/- What an operation comes to does not hang on what follows. -/
import Derived.Test.YtbiklmpkkbncgaaGreatDenOps16
set_option linter.unusedSimpArgs false
set_option linter.unusedVariables false
set_option linter.unnecessarySimpa false
namespace Go.Den
open Go

section
variable {P : Program}

theorem castC_det {kd : Kd} {v : AV} {K : AV → R} {o : Out} (h : castC kd v K = some o) : ∀ K' : AV → R, castC kd v K' = K' v := by
  intro K'
  unfold castC at h ⊢
  cases kd <;> cases v <;> simp only at h ⊢
  case int.int k k' n =>
    by_cases e : k' = k
    · subst e; simp
    · rw [if_neg e] at h; cases h
  case sl.sl z z' t n f =>
    by_cases e : z' = z
    · subst e; simp
    · rw [if_neg e] at h; cases h
  all_goals first | rfl | cases h

theorem castCs_det : ∀ {kds : List Kd} {vs : List AV} {K : List AV → R} {o : Out}, castCs kds vs K = some o → ∀ K' : List AV → R, castCs kds vs K' = K' vs
  | [], [], K, o, h, K' => rfl
  | [], _ :: _, K, o, h, _ => by cases h
  | _ :: _, [], K, o, h, _ => by cases h
  | kd :: kds, v :: vs, K, o, h, K' => by
    simp only [castCs] at h ⊢
    rw [castC_det h (fun v' => castCs kds vs fun vs' => K' (v' :: vs'))]
    exact castCs_det (K := fun vs' => K (v :: vs')) (castC_eq h) fun vs' => K' (v :: vs')

theorem castV_det {t : TypeId} {v : AV} {K : AV → R} {o : Out} (h : castV P t v K = some o) : ∀ K' : AV → R, castV P t v K' = K' v := by
  intro K'
  unfold castV at h ⊢
  cases hg : isAggD P t with
  | true =>
    rw [hg] at h
    simp only [cond_true] at h ⊢
    cases v <;> simp only at h ⊢
    case agg cs => exact castCs_det h fun cs' => K' (.agg cs')
    all_goals cases h
  | false =>
    rw [hg] at h
    exact castC_det h K'

theorem castVs_det : ∀ {ts : List TypeId} {vs : List AV} {K : List AV → R} {o : Out}, castVs P ts vs K = some o → ∀ K' : List AV → R, castVs P ts vs K' = K' vs
  | [], [], K, o, h, K' => rfl
  | [], _ :: _, K, o, h, _ => by cases h
  | _ :: _, [], K, o, h, _ => by cases h
  | t :: ts, v :: vs, K, o, h, K' => by
    simp only [castVs] at h ⊢
    rw [castV_det h (fun v' => castVs P ts vs fun vs' => K' (v' :: vs'))]
    exact castVs_det (K := fun vs' => K (v :: vs')) (castV_eq h) fun vs' => K' (v :: vs')

theorem castR_det {ts : List TypeId} {v : AV} {K : AV → R} {o : Out} (h : castR P ts v K = some o) : ∀ K' : AV → R, castR P ts v K' = K' v := by
  intro K'
  unfold castR at h ⊢
  split at h
  · exact castV_det h K'
  · split at h
    · rename_i vs; exact castVs_det (K := fun vs' => K (.tup vs')) h fun vs' => K' (.tup vs')
    · cases h

theorem appendD_det {nw : Option Nat} {h : List Den.Obj} {mt : Bool} {z bytes : Nat} {s : AV} {m : Nat} {g : Fin m → Row} {k : AV → List Den.Obj → R} {out : Out} (e : appendD nw h mt z bytes s m g k = some out) :
    ∃ v h', k v h' = some out ∧ ∀ kk : AV → List Den.Obj → R, appendD nw h mt z bytes s m g kk = kk v h' := by
  unfold appendD at e ⊢
  split at e
  · rename_i z' t n f
    cases hc : (z' == z && roomy (n + m) bytes) with
    | false => rw [hc] at e; cases e
    | true =>
      rw [hc] at e
      simp only [cond_true] at e ⊢
      cases t with
      | no => cases e
      | tight =>
        cases mt with
        | true =>
          simp only [cond_true] at e ⊢
          cases hm : m == 0 with
          | true => rw [hm] at e; exact ⟨_, _, e, fun kk => rfl⟩
          | false =>
            rw [hm] at e
            simp only [cond_false] at e ⊢
            obtain ⟨i, h', _, e, hd⟩ := newD_eq e
            exact ⟨_, _, e, fun kk => hd _⟩
        | false =>
          simp only [cond_false] at e ⊢
          obtain ⟨i, h', _, e, hd⟩ := newD_eq e
          exact ⟨_, _, e, fun kk => hd _⟩
      | id i =>
        simp only at e ⊢
        split at e
        · rename_i n' hob
          cases hn : n' == n with
          | false => rw [hn] at e; cases e
          | true => rw [hn] at e; exact ⟨_, _, e, fun kk => by simp only [hob, hn, cond_true]⟩
        · cases e
  · split at e
    · rename_i z' gen' n f hob
      split at e
      · rename_i hl
        cases hc : (z' == z && _ == gen' && _ == 0 && roomy (_ + m) bytes) with
        | false => rw [hc] at e; cases e
        | true => rw [hc] at e; exact ⟨_, _, e, fun kk => by simp only [hc, cond_true]; rw [dif_pos hl]⟩
      · cases e
    · cases e
  · cases e


end
end Go.Den
