/- Calls that are gone into where they stand, their loops laid out round by round. -/
import Derived.Test.YtbiklmpkkbncgaaGreatDenInl
set_option linter.unusedSimpArgs false
set_option linter.unusedVariables false
set_option linter.unnecessarySimpa false
namespace Go.Den
open Go

/-- a body, with what is done with what comes of it -/
def bodyU (P : Program) (pol : Pol) (call : CallK) (fuel : Nat) (fn : FuncId) (args : List AV) (h : List Obj) (ps : PS) (K : Out → R) : R :=
  match P.funcs[fn]? with
  | some f => match f.body with
    | some c => codeD P pol call fuel fn c ⟨startT P f args, ⟨h, [], ps⟩⟩ (kEndK P pol call f fn h.length ps K)
    | none => none
  | none => none

/-- all calls are gone into, but those of which the table tells -/
def symK (P : Program) (pol : Pol) (ts : FuncId → Bool) (base : CallK) (fuel : Nat) : Nat → CallK
  | 0 => base
  | m + 1 => fun f args h ps K => _root_.cond (ts f) (base f args h ps K) (bodyU P pol (symK P pol ts base fuel m) fuel f args h ps K)

section
variable {P : Program} {pol : Pol} {call : CallK} {c : CallO} {n : Nat} {fn : FuncId}

theorem loopD_fix {keep : Bool} {h0 : Nat} {B B' : St → (Exit → St → R) → R} {out : Out} (hB : ∀ {st : St} {k : Exit → St → R}, B st k = some out → ∃ e st', k e st' = some out ∧ ∀ k', B' st k' = k' e st') :
    ∀ (m : Nat) {st : St} {k : Exit → St → R}, loopD keep h0 B m st k = some out → ∃ e st', k e st' = some out ∧ ∀ k', loopD keep h0 B' m st k' = k' e st' := by
  intro m
  induction m with
  | zero => intro st k h; cases h
  | succ m ih =>
    intro st k h
    simp only [loopD] at h ⊢
    obtain ⟨e, st', h1, h2⟩ := hB h
    cases e with
    | normal =>
      obtain ⟨e', st'', h3, h4⟩ := ih h1
      exact ⟨e', st'', h3, fun k' => by rw [h2]; exact h4 k'⟩
    | exit i => exact ⟨_, _, h1, fun k' => by rw [h2]⟩
    | ret => exact ⟨_, _, h1, fun k' => by rw [h2]⟩
    | pan v => exact ⟨_, _, h1, fun k' => by rw [h2]⟩

theorem codeD_fix (hle : CallLeK call c) {out : Out} : ∀ (x : Code) {st : St} {k : Exit → St → R}, codeD P pol call n fn x st k = some out →
    ∃ e st', k e st' = some out ∧ ∀ k', codeD P pol (bindK c) n fn x st k' = k' e st' := by
  intro x
  induction x with
  | skip => intro st k h; exact ⟨_, _, h, fun _ => rfl⟩
  | label l => intro st k h; exact ⟨_, _, h, fun _ => rfl⟩
  | exit i => intro st k h; exact ⟨_, _, h, fun _ => rfl⟩
  | ret => intro st k h; exact ⟨_, _, h, fun _ => rfl⟩
  | region id ops draw =>
    intro st k h
    simp only [codeD] at h ⊢
    cases hc : (draw && !drawOK ops || !regOK ops) with
    | true => rw [hc] at h; cases h
    | false =>
      rw [hc] at h
      cases draw with
      | true =>
        rcases opsW_fix hle _ h with ⟨st', h1, h2⟩ | ⟨v, st', h1, h2⟩
        · exact ⟨_, _, h1, fun k' => by simp only [cond_false, cond_true]; rw [h2]⟩
        · cases hp : panOK P pol fn ops with
          | true => rw [hp] at h1; exact ⟨_, _, h1, fun k' => by simp only [cond_false, cond_true]; rw [h2]⟩
          | false => rw [hp] at h1; cases h1
      | false =>
        rcases opsD_fix hle _ h with ⟨st', h1, h2⟩ | ⟨v, st', h1, h2⟩
        · exact ⟨_, _, h1, fun k' => by simp only [cond_false]; rw [h2]⟩
        · exact ⟨_, _, h1, fun k' => by simp only [cond_false]; rw [h2]⟩
  | seq a b iha ihb =>
    intro st k h
    simp only [codeD] at h ⊢
    obtain ⟨e, st', h1, h2⟩ := iha h
    cases e with
    | normal =>
      obtain ⟨e', st'', h3, h4⟩ := ihb h1
      exact ⟨e', st'', h3, fun k' => by rw [h2]; exact h4 k'⟩
    | exit i => exact ⟨_, _, h1, fun k' => by rw [h2]⟩
    | ret => exact ⟨_, _, h1, fun k' => by rw [h2]⟩
    | pan v => exact ⟨_, _, h1, fun k' => by rw [h2]⟩
  | cond o x y ihx ihy =>
    intro st k h
    simp only [codeD] at h ⊢
    split at h
    · rename_i b eb
      (try simp only [eb])
      cases b with
      | true => exact ihx h
      | false => exact ihy h
    · cases h
  | block i c ih =>
    intro st k h
    simp only [codeD] at h ⊢
    obtain ⟨e, st', h1, h2⟩ := ih h
    cases e with
    | normal => exact ⟨_, _, h1, fun k' => by rw [h2]⟩
    | exit j =>
      simp only at h1
      cases hj : j == i with
      | true => rw [hj] at h1; exact ⟨_, _, h1, fun k' => by rw [h2]; simp only [hj, cond_true]⟩
      | false => rw [hj] at h1; exact ⟨_, _, h1, fun k' => by rw [h2]; simp only [hj, cond_false]⟩
    | ret => exact ⟨_, _, h1, fun k' => by rw [h2]⟩
    | pan v => exact ⟨_, _, h1, fun k' => by rw [h2]⟩
  | loop x ih =>
    intro st k h
    simp only [codeD] at h ⊢
    exact loopD_fix (fun h => ih h) n h
  | scope c ih => intro st k h; exact ih h
  | _ => intro st k h; simp only [codeD] at h; cases h

theorem bodyU_le (hle : CallLeK call c) {args : List AV} {h : List Obj} {ps : PS} {K : Out → R} {out : Out}
    (e : bodyU P pol call n fn args h ps K = some out) : ∃ o, K o = some out ∧ bodyD P pol (bindK c) n fn args h ps = some o := by
  simp only [bodyU] at e
  simp only [bodyD]
  split at e
  · rename_i f hf
    split at e
    · rename_i x hx
      simp only [hf, hx]
      obtain ⟨ex, st, hk, h2⟩ := codeD_fix (n := n) hle x e
      rw [h2]
      have go : ∀ {ds : List AV} {pan : Option AV}, leaveK P call f (shutK (pol.full fn) (pol.hold fn) h.length K) ds st pan = some out →
          ∃ o, K o = some out ∧ shut (pol.full fn) (pol.hold fn) h.length (leaveD P (bindK c) f ds st pan) = some o := by
        intro ds pan hl
        obtain ⟨o, h1, h2⟩ := leaveK_le hle ds hl
        obtain ⟨o', h3, h4⟩ := shutK_eq h1
        exact ⟨o', h4, by rw [h2]; exact h3⟩
      unfold kEndK at hk
      cases ex <;> cases ps <;> (cases hds : st.s.ds) <;> simp only [hds] at hk ⊢ <;> first | exact go hk | cases hk
    · cases e
  · cases e

theorem symK_le {ext : FuncId → Option CallO} {ts : FuncId → Bool} {base : CallK} (hb : CallLeK base (denA P pol ext)) (hf : ∀ f, ts f = false → ext f = none) : ∀ m, CallLeK (symK P pol ts base n m) (denA P pol ext) := by
  intro m
  induction m with
  | zero => exact hb
  | succ m ih =>
    intro f args h ps K out e
    simp only [symK] at e
    cases hfs : ts f with
    | true => rw [hfs] at e; exact hb _ _ _ _ _ _ e
    | false =>
      rw [hfs] at e
      obtain ⟨o, h1, h2⟩ := bodyU_le (n := n) ih e
      exact ⟨o, h1, denA_of_body (CallLeK.of_le fun _ _ _ _ _ h => h) (hf f hfs) h2⟩
end
end Go.Den
