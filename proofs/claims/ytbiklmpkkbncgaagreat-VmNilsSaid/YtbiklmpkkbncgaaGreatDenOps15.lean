/- Operations of a region, in the order of the text. -/
import Derived.Test.YtbiklmpkkbncgaaGreatDenOps14
set_option linter.unusedSimpArgs false
set_option linter.unusedVariables false
set_option linter.unnecessarySimpa false
namespace Go.Den
open Go

/-- the slots that guards speak of have been written in this region -/
def GdOK (all : Array Oper) (i : Nat) (T : List AV) : Prop :=
  ∀ (j : Nat) js v, T[j]? = some (.gd js v) → anyGuard all.toList = true ∧ ∀ p ∈ js, ∃ (i' : Nat) (o' : Oper), i' < i ∧ all[i']? = some o' ∧ o'.dst = some p.1

section
variable {P : Program} {c c' : Cx} {T : List AV} {tm : Array Value}

theorem SlotsG.put {a : Act} {s : Hs} (h : SlotsG c T a.tmps) (hx : Ext c c') {dst : Option Nat} (hfresh : ∀ d, dst = some d → ∀ (j : Nat) js v, T[j]? = some (.gd js v) → ∀ p ∈ js, p.1 ≠ d)
    {u : AV} {x : Value} {ds : List Deferred} (hu : ∀ d, dst = some d → TR c' (a.tmps.setIfInBounds d x) u x) : SlotsG c' (St.put ⟨T, s⟩ dst u).T (Act.put { a with defers := ds } dst x).tmps := by
  cases dst with
  | none => exact h.ext hx
  | some d =>
    refine ⟨by simp [St.put, Act.put, h.size], fun j w y e1 e2 => ?_⟩
    simp only [St.put, Act.put] at e1 e2 ⊢
    rw [Array.getElem?_setIfInBounds] at e2
    by_cases hj : d = j
    · subst hj
      rw [if_pos rfl] at e2
      split at e2
      · rename_i hlt
        rw [List.getElem?_set_self (by rw [← h.size]; exact hlt)] at e1
        cases e1; cases e2
        exact hu d rfl
      · cases e2
    · rw [if_neg hj] at e2
      rw [List.getElem?_set_ne hj] at e1
      have := (h.at' j w y e1 e2).ext hx
      cases w with
      | gd js v =>
        have hiff : Hold (a.tmps.setIfInBounds d x) js ↔ Hold a.tmps js := by
          have : ∀ p ∈ js, (a.tmps.setIfInBounds d x)[p.1]? = a.tmps[p.1]? := fun p hp => by
            rw [Array.getElem?_setIfInBounds, if_neg (fun e => hfresh d rfl j js v e1 p hp e.symm)]
          exact ⟨fun hh p hp => by rw [← this p hp]; exact hh p hp, fun hh p hp => by rw [this p hp]; exact hh p hp⟩
        exact ⟨fun hh => this.1 (hiff.1 hh), fun hh => this.2 fun hh' => hh (hiff.2 hh')⟩
      | _ => exact this

theorem hold_put {js : Js} {d : Nat} {x : Value} (hf : ∀ p ∈ js, p.1 ≠ d) : Hold (tm.setIfInBounds d x) js ↔ Hold tm js := by
  have : ∀ p ∈ js, (tm.setIfInBounds d x)[p.1]? = tm[p.1]? := fun p hp => by rw [Array.getElem?_setIfInBounds, if_neg (fun e => hf p hp e.symm)]
  exact ⟨fun hh p hp => by rw [← this p hp]; exact hh p hp, fun hh p hp => by rw [this p hp]; exact hh p hp⟩

/-- an operation that leaves the world alone, by guards that are said of T -/
theorem pureG_sound {a : Act} {o : Oper} {js : Js} {v : AV} (hr : RelH c) (hS : SlotsG c T a.tmps) (hh : Hold a.tmps js) (h : pureG P T js c.h o = some v) :
    ∃ x, (execOp a.eval o).run P c.w = .ok (.value x) c.w ∧ VR c v x := by
  unfold pureG at h
  have h' : opPure P (evalG T js) (evalG T (js ++ pickJ o true)) (evalG T (js ++ pickJ o false)) c.h o = some v := by
    unfold solid at h
    split at h
    · exact h
    · split at h
      · cases h
      · cases h
      · cases h
      · exact h
  refine opPure_sound hr (fun x _ => evalG_sound hS hh x) (fun d x y ho => ?_) h'
  have key : ∀ w, a.eval d = .bool w → Hold a.tmps (js ++ pickJ o w) := by
    intro w hd p hp
    rcases List.mem_append.1 hp with hp | hp
    · exact hh p hp
    · simp only [pickJ, ho] at hp
      cases d with
      | tmp t =>
        simp only [List.mem_singleton] at hp
        subst hp
        simp only [Act.eval, Array.getD_eq_getD_getElem?] at hd
        cases hx : a.tmps[t]? with
        | none => rw [hx] at hd; simp [undef] at hd
        | some z => rw [hx] at hd; simp at hd; subst hd; rfl
      | _ => cases hp
  exact ⟨fun hd => evalG_sound hS (key true hd) x, fun hd => evalG_sound hS (key false hd) y⟩

theorem guard_slots {all : Array Oper} {i : Nat} {o : Oper} {js : Js} (hG : GdOK all i T) (hg : guardOf all T o = .run js) (hback : ∀ j w, o.guard = some (j, w) → j < i) (ho : all[i]? = some o) :
    (js ≠ [] → anyGuard all.toList = true) ∧ ∀ p ∈ js, ∃ (i' : Nat) (o' : Oper), i' < i ∧ all[i']? = some o' ∧ o'.dst = some p.1 := by
  unfold guardOf at hg
  split at hg
  · cases hg
    exact ⟨fun h => absurd rfl h, fun p hp => by cases hp⟩
  · rename_i j want e
    have hany : anyGuard all.toList = true := by
      unfold anyGuard
      exact List.any_eq_true.2 ⟨o, by simpa using Array.mem_of_getElem? ho, by simp [e]⟩
    split at hg
    · rename_i d ed
      have hj := hback j want e
      obtain ⟨o', e1, e2⟩ := Option.bind_eq_some_iff.1 ed
      split at hg
      · cases hg
        refine ⟨fun _ => hany, fun p hp => ?_⟩
        simp only [List.mem_singleton] at hp
        subst hp
        exact ⟨j, o', hj, e1, e2⟩
      · rename_i js' b eb
        cases hg
        have hd : T[d]? = some (.gd js' (.bool b)) := by
          unfold getT at eb
          cases hx : T[d]? with
          | none => rw [hx] at eb; simp [undefA] at eb
          | some z => rw [hx] at eb; simp at eb; rw [eb]
        refine ⟨fun _ => hany, fun p hp => ?_⟩
        rcases List.mem_append.1 hp with hp | hp
        · exact (hG d js' _ hd).2 p hp
        · simp only [List.mem_singleton] at hp
          subst hp
          exact ⟨j, o', hj, e1, e2⟩
      · cases hg
      · cases hg
    · cases hg

theorem splitJ_sound {all : Array Oper} {i : Nat} : ∀ {js : Js} {T : List AV} {yes no : List AV → R} {out : Out}, SlotsG c T tm → GdOK all i T → splitJ js T yes no = some out →
    ∃ T', SlotsG c T' tm ∧ GdOK all i T' ∧ ((Hold tm js ∧ yes T' = some out) ∨ (¬ Hold tm js ∧ no T' = some out)) := by
  intro js
  induction js with
  | nil => intro T yes no out hS hG h; exact ⟨T, hS, hG, .inl ⟨fun p hp => (by cases hp), h⟩⟩
  | cons p js ih =>
    intro T yes no out hS hG h
    obtain ⟨d, w⟩ := p
    simp only [splitJ] at h
    split at h
    · rename_i cc ec
      have hd := hS.boolSlot ec
      have hG' : ∀ b, GdOK all i (resolve T d b) := fun b j js' v e => by
        obtain ⟨js₀, v₀, e0, hsub⟩ := resolve_gd e
        obtain ⟨h1, h2⟩ := hG j js₀ v₀ e0
        exact ⟨h1, fun p hp => h2 p (hsub p hp)⟩
      cases hcw : cc == w with
      | true =>
        rw [beq_iff_eq] at hcw
        subst hcw
        simp only [beq_self_eq_true, cond_true] at h
        obtain ⟨T', s1, s2, s3⟩ := ih (resolve_sound hS hd) (hG' _) h
        refine ⟨T', s1, s2, s3.imp (fun ⟨h1, h2⟩ => ⟨fun p hp => (List.mem_cons.1 hp).elim (fun e => e ▸ hd) (h1 p), h2⟩)
          fun ⟨h1, h2⟩ => ⟨fun hh => h1 fun p hp => hh p (List.mem_cons_of_mem _ hp), h2⟩⟩
      | false =>
        rw [hcw] at h
        have hne : cc ≠ w := by simpa using hcw
        have hw : (!w) = cc := by cases cc <;> cases w <;> simp at hne ⊢
        simp only [cond_false] at h
        rw [hw] at h
        refine ⟨_, resolve_sound hS hd, hG' _, .inr ⟨fun hh => ?_, h⟩⟩
        have := hh (d, w) (List.mem_cons_self ..)
        rw [hd] at this
        cases this
        exact hne rfl
    · cases h

theorem uniqOK_ne : ∀ {l : List Oper} {i j : Nat} {o o' : Oper} {d : Nat}, uniqOK l = true → i < j → l[i]? = some o → l[j]? = some o' → o.dst = some d → o'.dst ≠ some d := by
  intro l
  induction l with
  | nil => intro i j o o' d _ _ h; simp at h
  | cons q l ih =>
    intro i j o o' d hu hij h1 h2 hd
    simp only [uniqOK, Bool.and_eq_true] at hu
    match i, j with
    | 0, 0 => omega
    | i + 1, 0 => omega
    | 0, j + 1 =>
      simp only [List.getElem?_cons_zero, Option.some.injEq, List.getElem?_cons_succ] at h1 h2
      subst h1
      have := hu.1
      rw [hd] at this
      simp only [Bool.not_eq_true'] at this
      have := List.any_eq_false.1 this o' (List.mem_of_getElem? h2)
      simpa using this
    | i + 1, j + 1 =>
      simp only [List.getElem?_cons_succ] at h1 h2
      exact ih hu.2 (by omega) h1 h2 hd

theorem backOK_lt : ∀ {l : List Oper} {n i : Nat} {o : Oper} {j : Nat} {w : Bool}, backOK n l = true → l[i]? = some o → o.guard = some (j, w) → j < n + i := by
  intro l
  induction l with
  | nil => intro n i o j w _ h; simp at h
  | cons q l ih =>
    intro n i o j w hb h hg
    simp only [backOK, Bool.and_eq_true] at hb
    match i with
    | 0 =>
      simp only [List.getElem?_cons_zero, Option.some.injEq] at h
      subst h
      have := hb.1
      rw [hg] at this
      simpa using this
    | i + 1 =>
      simp only [List.getElem?_cons_succ] at h
      have := ih hb.2 h hg
      omega

theorem put_eta {s : Hs} {dst : Option Nat} {u : AV} : St.put ⟨T, s⟩ dst u = ⟨(St.put ⟨T, s⟩ dst u).T, s⟩ := by cases dst <;> rfl
theorem put_defers {a : Act} {dst : Option Nat} {x : Value} : (a.put dst x).defers = a.defers := by cases dst <;> rfl

theorem opsD_text (hok : Okay P) {call : CallO} (hcall : CallSound P call) {pol : Pol} {fn : FuncId} {all : Array Oper} {base : Base} {k : St → R} {kp : AV → St → R} {out : Out} (hreg : regOK all = true) :
    ∀ (n i : Nat), i + n = all.size → ∀ {T : List AV} {s : Hs} {a : Act} {cs : List Frame} {c : Cx}, opsD P pol (bindK call) fn all (all.toList.drop i) ⟨T, s⟩ k kp = some out →
      Fr base c s a.defers cs → SlotsG c T a.tmps → GdOK all i T → ∀ Q : Post,
      (∀ st' c' a' cs', k st' = some out → Evol c c' → Fr base c' st'.s a'.defers cs' → SlotsG c' st'.T a'.tmps → GdOK all all.size st'.T → Q .normal a' cs' c'.w) →
      (∀ v st' c' x a' cs', kp v st' = some out → Evol c c' → Fr base c' st'.s a'.defers cs' → SlotsG c' st'.T a'.tmps → VR c' v x → Q (.panic [{ v := x, recovered := false }]) a' cs' c'.w) →
      Runs P base.kind [.inRegion all (List.range' i n)] Q a cs c.w := by
  intro n
  induction n with
  | zero =>
    intro i hi T s a cs c h hF hS hG Q hQ hQp
    have : all.toList.drop i = [] := by apply List.drop_eq_nil_of_le; simp; omega
    rw [this] at h
    simp only [opsD] at h
    simp only [List.range'_zero]
    exact Runs.op_nil (hQ _ c a cs h (Evol.refl c) hF hS (by rw [show all.size = i from by omega]; exact hG))
  | succ n ih =>
    intro i hi T s a cs c h hF hS hG Q hQ hQp
    have hlt : i < all.size := by omega
    have hdrop : all.toList.drop i = all[i] :: all.toList.drop (i + 1) := by
      rw [List.drop_eq_getElem_cons (by simpa using hlt)]
      simp
    have ho : all[i]? = some all[i] := Array.getElem?_eq_getElem hlt
    rw [hdrop] at h
    generalize all[i] = o at h ho
    rw [show List.range' i (n + 1) = i :: List.range' (i + 1) n from rfl]
    -- guards look back, slots are written once
    have hback : ∀ j w, o.guard = some (j, w) → j < i := by
      intro j w e
      have hany : anyGuard all.toList = true := List.any_eq_true.2 ⟨o, by simpa using Array.mem_of_getElem? ho, by simp [e]⟩
      simp only [regOK, hany, Bool.not_true, Bool.false_or, Bool.and_eq_true] at hreg
      have := backOK_lt hreg.2 (by simpa using ho) e
      omega
    have huniq : anyGuard all.toList = true → ∀ (i' : Nat) (o' : Oper) (d : Nat), i' < i → all[i']? = some o' → o'.dst = some d → o.dst ≠ some d := by
      intro hany i' o' d h1 h2 h3
      simp only [regOK, hany, Bool.not_true, Bool.false_or, Bool.and_eq_true] at hreg
      exact uniqOK_ne hreg.1 h1 (by simpa using h2) (by simpa using ho) h3
    have freshT : ∀ {T : List AV}, GdOK all i T → ∀ d, o.dst = some d → ∀ (j : Nat) js v, T[j]? = some (.gd js v) → ∀ p ∈ js, p.1 ≠ d := by
      intro T hG d hd j js v e p hp he
      obtain ⟨h1, h2⟩ := hG j js v e
      obtain ⟨i', o', g1, g2, g3⟩ := h2 p hp
      exact huniq h1 i' o' p.1 g1 g2 g3 (by rw [he]; exact hd)
    have nextG : ∀ {T : List AV} {s' : Hs} {u : AV}, GdOK all i T → (∀ js v, u = .gd js v → anyGuard all.toList = true ∧ ∀ p ∈ js, ∃ (i' : Nat) (o' : Oper), i' < i ∧ all[i']? = some o' ∧ o'.dst = some p.1) →
        GdOK all (i + 1) (St.put ⟨T, s'⟩ o.dst u).T := by
      intro T s' u hG hu j js v e
      have up : (anyGuard all.toList = true ∧ ∀ p ∈ js, ∃ (i' : Nat) (o' : Oper), i' < i ∧ all[i']? = some o' ∧ o'.dst = some p.1) →
          anyGuard all.toList = true ∧ ∀ p ∈ js, ∃ (i' : Nat) (o' : Oper), i' < i + 1 ∧ all[i']? = some o' ∧ o'.dst = some p.1 := fun ⟨h1, h2⟩ =>
        ⟨h1, fun p hp => let ⟨i', o', g1, g2⟩ := h2 p hp; ⟨i', o', by omega, g2⟩⟩
      cases hd : o.dst with
      | none => rw [hd] at e; exact up (hG j js v e)
      | some d =>
        rw [hd] at e
        simp only [St.put] at e
        by_cases hj : d = j
        · subst hj
          rw [List.getElem?_set] at e
          rw [if_pos rfl] at e
          split at e
          · exact up (hu js v (Option.some.inj e))
          · cases e
        · rw [List.getElem?_set_ne hj] at e
          exact up (hG j js v e)
    have hvr : ∀ {c : Cx} {u : AV} {x : Value}, VR c u x → ∀ js v, u = .gd js v → anyGuard all.toList = true ∧ ∀ p ∈ js, ∃ (i' : Nat) (o' : Oper), i' < i ∧ all[i']? = some o' ∧ o'.dst = some p.1 := by
      intro c u x hv js v e; subst e; exact absurd hv VR.not_gd
    -- one step on
    have go : ∀ {T' : List AV} {s' : Hs} {u : AV} {x : Value} {ds' : List Deferred} {cs' : List Frame} {c' : Cx}, opsD P pol (bindK call) fn all (all.toList.drop (i + 1)) (St.put ⟨T', s'⟩ o.dst u) k kp = some out →
        Evol c c' → Fr base c' s' ds' cs' → SlotsG c T' a.tmps → GdOK all i T' →
        (∀ js v, u = .gd js v → anyGuard all.toList = true ∧ ∀ p ∈ js, ∃ (i' : Nat) (o' : Oper), i' < i ∧ all[i']? = some o' ∧ o'.dst = some p.1) → (∀ d, o.dst = some d → TR c' (a.tmps.setIfInBounds d x) u x) →
        Runs P base.kind [.inRegion all (List.range' (i + 1) n)] Q (Act.put { a with defers := ds' } o.dst x) cs' c'.w := by
      intro T' s' u x ds' cs' c' h' hE hF' hS' hG' hu hTR
      rw [put_eta] at h'
      refine ih (i + 1) (by omega) h' ?_ (hS'.put hE.ext (freshT hG') hTR) (nextG hG' hu) Q (fun st' c'' a'' cs'' e0 e1 => hQ st' c'' a'' cs'' e0 (hE.trans e1)) fun v st' c'' x a'' cs'' e0 e1 => hQp v st' c'' x a'' cs'' e0 (hE.trans e1)
      rw [put_defers]; exact hF'
    simp only [opsD] at h
    split at h
    · rename_i hg
      refine Runs.op_skip ho (guard_skip hS hg) ?_
      exact go (ds' := a.defers) h (Evol.refl c) hF hS hG (fun js v e => by cases e) (fun d _ => .of_vr .undef)
    · cases h
    · rename_i js hg
      obtain ⟨hj1, hj2⟩ := guard_slots hG hg hback ho
      have hw := guard_run hS hg
      have hjf : ∀ d, o.dst = some d → ∀ p ∈ js, p.1 ≠ d := by
        intro d hd p hp he
        obtain ⟨i', o', g1, g2, g3⟩ := hj2 p hp
        exact huniq (hj1 (fun e => by rw [e] at hp; cases hp)) i' o' p.1 g1 g2 g3 (by rw [he]; exact hd)
      cases hp : pureG P T js s.h o with
      | some v =>
        rw [hp] at h
        simp only at h
        rw [← hF.h] at hp
        have hgd : ∀ js' v', gdOf js v = .gd js' v' → anyGuard all.toList = true ∧ ∀ p ∈ js', ∃ (i' : Nat) (o' : Oper), i' < i ∧ all[i']? = some o' ∧ o'.dst = some p.1 := by
          intro js' v' e
          cases js with
          | nil =>
            obtain ⟨x, _, hv⟩ := pureG_sound hF.rel hS (fun p hp => by cases hp) hp
            simp only [gdOf] at e
            exact hvr hv js' v' e
          | cons q js =>
            simp only [gdOf] at e
            cases e
            exact ⟨hj1 (by simp), hj2⟩
        by_cases hh : Hold a.tmps js
        · obtain ⟨x, hrun, hv⟩ := pureG_sound hF.rel hS hh hp
          exact Runs.op_value ho (hw.2 hh) hrun (go (ds' := a.defers) h (Evol.refl c) hF hS hG hgd fun d hd => gdOf_sound (fun _ => hv) fun hn => absurd ((hold_put (hjf d hd)).2 hh) hn)
        · have hw' : Region.wanted o (yielded all a.tmps) = false := by
            cases hx : Region.wanted o (yielded all a.tmps) with
            | false => rfl
            | true => exact absurd (hw.1 hx) hh
          exact Runs.op_skip ho hw' (go (ds' := a.defers) h (Evol.refl c) hF hS hG hgd fun d hd => gdOf_sound (fun hn => absurd ((hold_put (hjf d hd)).1 hn) hh) fun _ => rfl)
      | none =>
        rw [hp] at h
        simp only at h
        obtain ⟨T', hS', hG', ⟨hh, h⟩ | ⟨hh, h⟩⟩ := splitJ_sound hS hG h
        · rcases opD_runs hok hcall ho (hw.2 hh) hF (fun x _ => evalG_sound hS' (fun p hp => by cases hp) x) h with ⟨v, s', h, hD⟩ | ⟨v, s', h, hD⟩
          · exact hD _ Q fun c' x ds' cs' hE hF' hv => go h hE hF' hS' hG' (hvr hv) fun d _ => .of_vr hv
          · exact hD _ Q fun c' x hE hF' hv => hQp v _ c' x a cs h hE hF' (hS'.ext hE.ext) hv
        · have hw' : Region.wanted o (yielded all a.tmps) = false := by
            cases hx : Region.wanted o (yielded all a.tmps) with
            | false => rfl
            | true => exact absurd (hw.1 hx) hh
          exact Runs.op_skip ho hw' (go (ds' := a.defers) h (Evol.refl c) hF hS' hG' (fun js v e => by cases e) (fun d _ => .of_vr .undef))

end
end Go.Den
