/- More calls, more fuel: no other answers. -/
import Derived.Test.YtbiklmpkkbncgaaGreatDenOps20
set_option linter.unusedSimpArgs false
set_option linter.unusedVariables false
set_option linter.unnecessarySimpa false
namespace Go.Den
open Go
section
variable {P : Program}

theorem cond_some {b : Bool} {r : R} {out : Out} (h : cond b r none = some out) : b = true ∧ r = some out := by
  cases b with
  | true => exact ⟨rfl, h⟩
  | false => cases h

theorem splitJ_mono {out : Out} : ∀ {js : Js} {T : List AV} {yes yes' no no' : List AV → R}, (∀ T, yes T = some out → yes' T = some out) → (∀ T, no T = some out → no' T = some out) →
    splitJ js T yes no = some out → splitJ js T yes' no' = some out := by
  intro js
  induction js with
  | nil => intro T yes yes' no no' hy _ h; exact hy _ h
  | cons p js ihj =>
    intro T yes yes' no no' hy hn h
    obtain ⟨d, w⟩ := p
    simp only [splitJ] at h ⊢
    split at h
    · rename_i c ec
      cases hcw : c == w with
      | true => rw [hcw] at h; exact ihj hy hn h
      | false => rw [hcw] at h; exact hn _ h
    · cases h

theorem opsD_mono {pol : Pol} {call : CallK} {c' : CallO} (hle : CallLeK call c') {fn : FuncId} {all : Array Oper} {out : Out} : ∀ (l : List Oper) {st : St} {k k' : St → R} {kp kp' : AV → St → R},
    (∀ st, k st = some out → k' st = some out) → (∀ v st, kp v st = some out → kp' v st = some out) → opsD P pol call fn all l st k kp = some out → opsD P pol (bindK c') fn all l st k' kp' = some out := by
  intro l
  induction l with
  | nil => intro st k k' kp kp' hk hkp h; exact hk _ h
  | cons o l ih =>
    intro st k k' kp kp' hk hkp h
    simp only [opsD] at h ⊢
    split at h
    · exact ih hk hkp h
    · cases h
    · rename_i js hg
      cases hp : pureG P st.T js st.s.h o with
      | some v => rw [hp] at h; exact ih hk hkp h
      | none =>
        rw [hp] at h
        simp only at h ⊢
        refine splitJ_mono (fun T h => ?_) (fun T h => ih hk hkp h) h
        rcases opD_fix hle h with ⟨v, s', h1, h2⟩ | ⟨v, s', h1, h2⟩
        · rw [h2]; exact ih hk hkp h1
        · rw [h2]; exact hkp _ _ h1

theorem opsW_mono {pol : Pol} {call : CallK} {c' : CallO} (hle : CallLeK call c') {fn : FuncId} {all : Array Oper} {ah : List Nat} {out : Out} : ∀ (l : List Oper) {i n : Nat} {ps : List Fp} {st : St} {k k' : St → R} {kp kp' : AV → St → R},
    (∀ st, k st = some out → k' st = some out) → (∀ v st, kp v st = some out → kp' v st = some out) → opsW P pol call fn all ah l i n ps st k kp = some out → opsW P pol (bindK c') fn all ah l i n ps st k' kp' = some out := by
  intro l
  induction l with
  | nil => intro i n ps st k k' kp kp' hk hkp h; exact hk _ h
  | cons o l ih =>
    intro i n ps st k k' kp kp' hk hkp h
    simp only [opsW] at h ⊢
    split at h
    · exact ih hk hkp h
    · cases h
    · rename_i js hg
      cases hf : freeOf ah ps (fpOf P pol fn i n (hidGo P pol fn ah i st.s.h all.toList 0 st.T) (evalG st.T js) o) with
      | false => rw [hf] at h; cases h
      | true =>
      rw [hf] at h
      simp only [cond_true] at h ⊢
      cases hp : pureG P st.T js st.s.h o with
      | some v => rw [hp] at h; exact ih hk hkp h
      | none =>
        rw [hp] at h
        simp only at h ⊢
        cases hh : holdsJ st.T [] js with
        | none => rw [hh] at h; cases h
        | some b =>
          rw [hh] at h
          cases b with
          | true =>
            simp only [cond_true] at h ⊢
            rcases opD_fix hle h with ⟨v, s', h1, h2⟩ | ⟨v, s', h1, h2⟩
            · obtain ⟨hb, h1⟩ := cond_some h1
              rw [h2]; simp only [hb, cond_true]; exact ih hk hkp h1
            · rw [h2]; exact hkp _ _ h1
          | false => exact ih hk hkp h

theorem loopD_mono {keep : Bool} {h0 : Nat} {B B' : St → (Den.Exit → St → R) → R} {out : Out} (hB : ∀ (st : St) (k k' : Den.Exit → St → R), (∀ e st, k e st = some out → k' e st = some out) → B st k = some out → B' st k' = some out) :
    ∀ (n n' : Nat), n ≤ n' → ∀ {st : St} {k k' : Den.Exit → St → R}, (∀ e st, k e st = some out → k' e st = some out) → loopD keep h0 B n st k = some out → loopD keep h0 B' n' st k' = some out := by
  intro n
  induction n with
  | zero => intro n' _ st k k' _ h; cases h
  | succ n ih =>
    intro n' hn st k k' hk h
    obtain ⟨m, rfl⟩ : ∃ m, n' = m + 1 := ⟨n' - 1, by omega⟩
    simp only [loopD] at h ⊢
    refine hB _ _ _ (fun e st' h => ?_) h
    cases e with
    | normal => exact ih m (by omega) hk h
    | exit i => exact hk _ _ h
    | ret => exact hk _ _ h
    | pan v => exact hk _ _ h

theorem codeD_mono {pol : Pol} {call : CallK} {c' : CallO} (hle : CallLeK call c') {fn : FuncId} {n n' : Nat} (hn : n ≤ n') {out : Out} : ∀ (x : Code) {st : St} {k k' : Den.Exit → St → R},
    (∀ e st, k e st = some out → k' e st = some out) → codeD P pol call n fn x st k = some out → codeD P pol (bindK c') n' fn x st k' = some out := by
  intro x
  induction x with
  | skip => intro st k k' hk h; exact hk _ _ h
  | label l => intro st k k' hk h; exact hk _ _ h
  | exit i => intro st k k' hk h; exact hk _ _ h
  | ret => intro st k k' hk h; exact hk _ _ h
  | region id ops draw =>
    intro st k k' hk h
    simp only [codeD] at h ⊢
    cases hc : (draw && !drawOK ops || !regOK ops) with
    | true => rw [hc] at h; cases h
    | false =>
      rw [hc] at h
      cases draw with
      | true =>
        refine opsW_mono hle _ (fun st h => hk _ _ h) (fun v st h => ?_) h
        cases hp : panOK P pol fn ops with
        | true => rw [hp] at h; exact hk _ _ h
        | false => rw [hp] at h; cases h
      | false => exact opsD_mono hle _ (fun st h => hk _ _ h) (fun v st h => hk _ _ h) h
  | seq a b iha ihb =>
    intro st k k' hk h
    simp only [codeD] at h ⊢
    refine iha (fun e st h => ?_) h
    cases e with
    | normal => exact ihb hk h
    | exit i => exact hk _ _ h
    | ret => exact hk _ _ h
    | pan v => exact hk _ _ h
  | cond c x y ihx ihy =>
    intro st k k' hk h
    simp only [codeD] at h ⊢
    split at h
    · rename_i b eb
      cases b with
      | true => exact ihx hk h
      | false => exact ihy hk h
    · cases h
  | block i c ih =>
    intro st k k' hk h
    simp only [codeD] at h ⊢
    refine ih (fun e st h => ?_) h
    cases e with
    | normal => exact hk _ _ h
    | exit j =>
      simp only at h ⊢
      cases hj : j == i with
      | true => rw [hj] at h; exact hk _ _ h
      | false => rw [hj] at h; exact hk _ _ h
    | ret => exact hk _ _ h
    | pan v => exact hk _ _ h
  | loop c ih =>
    intro st k k' hk h
    simp only [codeD] at h ⊢
    exact loopD_mono (B := codeD P pol call n fn c) (B' := codeD P pol (bindK c') n' fn c) (fun st k k' hk h => ih hk h) n n' hn hk h
  | scope c ih => intro st k k' hk h; exact ih hk h
  | _ => intro st k k' hk h; simp only [codeD] at h; cases h

theorem leaveD_mono {call : CallK} {c' : CallO} (hle : CallLeK call c') {f : Func} {out : Out} : ∀ (ds : List AV) {st : St} {pan : Option AV}, leaveD P call f ds st pan = some out → leaveD P (bindK c') f ds st pan = some out := by
  intro ds
  induction ds with
  | nil => intro st pan h; cases pan <;> exact h
  | cons d ds ih =>
    intro st pan h
    simp only [leaveD] at h
    split at h
    · rename_i g cap
      obtain ⟨o, h, e⟩ := hle _ _ _ _ _ _ h
      cases o with
      | ret v h' ps' =>
        simp only [leaveD, bindK, e]
        exact ih h
      | pan => cases h
    · cases h

theorem bodyD_mono {pol : Pol} {call : CallK} {c' : CallO} (hle : CallLeK call c') {n n' : Nat} (hn : n ≤ n') {f : FuncId} {args : List AV} {h : List Obj} {ps : PS} {out : Out} (e : bodyD P pol call n f args h ps = some out) : bodyD P pol (bindK c') n' f args h ps = some out := by
  simp only [bodyD] at e ⊢
  split at e
  · rename_i fn hfn
    split at e
    · rename_i c hc
      refine codeD_mono hle hn c (fun ex st h => ?_) e
      have sh : ∀ {r r' : R}, (∀ o, r = some o → r' = some o) → ∀ {full hold : Bool} {m : Nat} {o : Out}, shut full hold m r = some o → shut full hold m r' = some o := by
        intro r r' hr full hold m o hs
        cases r with
        | none => cases hs
        | some x => rw [hr x rfl]; exact hs
      refine sh (fun o h => ?_) h
      split at h
      · exact leaveD_mono hle _ h
      · exact leaveD_mono hle _ h
      · exact leaveD_mono hle _ h
      · exact leaveD_mono hle _ h
      · exact leaveD_mono hle _ h
      · cases h
    · cases e
  · cases e

theorem den_mono (pol : Pol) (ext : FuncId → Option CallO) : ∀ {k k' : Nat}, k ≤ k' → CallLe (den P pol ext k) (den P pol ext k') := by
  intro k
  induction k with
  | zero => intro k' _ f args h ps o e; cases e
  | succ k ih =>
    intro k' hk f args h ps o e
    obtain ⟨m, rfl⟩ : ∃ m, k' = m + 1 := ⟨k' - 1, by omega⟩
    simp only [den] at e ⊢
    cases he : ext f with
    | some g => rw [he] at e; exact e
    | none => rw [he] at e; exact bodyD_mono (CallLeK.of_le (ih (by omega))) (by omega) e

/-- a body, by what is known of the calls in it -/
theorem den_of_body {pol : Pol} {ext : FuncId → Option CallO} {call : CallK} {k n : Nat} (hle : CallLeK call (den P pol ext k)) (hn : n ≤ k) {f : FuncId} (hf : ext f = none) {args : List AV} {h : List Obj} {ps : PS} {out : Out}
    (e : bodyD P pol call n f args h ps = some out) : den P pol ext (k + 1) f args h ps = some out := by
  simp only [den, hf]
  exact bodyD_mono hle hn e

end
end Go.Den
