/- Calls that are gone into where they stand: bodies with what is done with what comes of them. -/
import Derived.Test.YtbiklmpkkbncgaaGreatDenPiece
set_option linter.unusedSimpArgs false
set_option linter.unusedVariables false
set_option linter.unnecessarySimpa false
namespace Go.Den
open Go

/-- deferred calls, with what is done behind them -/
def leaveK (P : Program) (call : CallK) (f : Func) (K : Out → R) : List AV → St → Option AV → R
  | [], st, none => match resultsD P f st with
    | some v => K (.ret v st.s.h st.s.ps)
    | none => none
  | [], st, some v => K (.pan v st.s.h st.s.ps)
  | d :: ds, st, pan => match d with
    | .fn g cap => call g cap st.s.h (psOf pan) fun
      | .ret _ h ps => leaveK P call f K ds ⟨st.T, { st.s with h := h }⟩ ps.back
      | .pan _ _ _ => none
    | _ => none

def shutK (full hold : Bool) (n : Nat) (K : Out → R) : Out → R
  | .ret v h ps => _root_.cond (full && (hold || leadsIn v)) (K (.ret v h ps)) (K (.ret (freeze n h v) ((h.take n).map (sweepO n)) (ps.cut n)))
  | .pan v h ps => K (.pan (sweep n v) ((h.take n).map (sweepO n)) (ps.cut n))

/-- what is done behind a body -/
def kEndK (P : Program) (pol : Pol) (call : CallK) (f : Func) (fn : FuncId) (n : Nat) (ps : PS) (K : Out → R) : Exit → St → R := fun e st =>
  match e, ps, st.s.ds with
  | .normal, .plain, ds | .ret, .plain, ds => leaveK P call f (shutK (pol.full fn) (pol.hold fn) n K) ds st none
  | .pan v, .plain, ds => leaveK P call f (shutK (pol.full fn) (pol.hold fn) n K) ds st (some v)
  | .normal, _, [] | .ret, _, [] => leaveK P call f (shutK (pol.full fn) (pol.hold fn) n K) [] st none
  | _, _, _ => none

def bodyK (P : Program) (pol : Pol) (call : CallK) (loops : LoopK) (fn : FuncId) (args : List AV) (h : List Obj) (ps : PS) (K : Out → R) : R :=
  match P.funcs[fn]? with
  | some f => match f.body with
    | some c => codeL P pol call loops fn c ⟨startT P f args, ⟨h, [], ps⟩⟩ (kEndK P pol call f fn h.length ps K)
    | none => none
  | none => none

section
variable {P : Program} {pol : Pol} {call : CallK} {c : CallO} {n : Nat} {fn : FuncId} {loops : LoopK}

theorem leaveK_le (hle : CallLeK call c) {f : Func} {K : Out → R} {out : Out} : ∀ (ds : List AV) {st : St} {pan : Option AV}, leaveK P call f K ds st pan = some out →
    ∃ o, K o = some out ∧ leaveD P (bindK c) f ds st pan = some o := by
  intro ds
  induction ds with
  | nil =>
    intro st pan h
    cases pan with
    | none =>
      simp only [leaveK] at h
      split at h
      · rename_i v hv
        exact ⟨_, h, by simp only [leaveD, hv]⟩
      · cases h
    | some v => exact ⟨_, h, rfl⟩
  | cons d ds ih =>
    intro st pan h
    unfold leaveK at h
    unfold leaveD
    split at h
    · rename_i g cap
      obtain ⟨o, h1, h2⟩ := hle _ _ _ _ _ _ h
      simp only [bindK, h2]
      cases o with
      | ret v h' ps => exact ih h1
      | pan v h' ps => cases h1
    · cases h

theorem shutK_eq {full hold : Bool} {m : Nat} {K : Out → R} {o out : Out} (h : shutK full hold m K o = some out) : ∃ o', shut full hold m (some o) = some o' ∧ K o' = some out := by
  cases o with
  | ret v h' ps =>
    simp only [shutK] at h
    simp only [shut]
    cases hb : full && (hold || leadsIn v) with
    | true => rw [hb] at h; exact ⟨_, rfl, h⟩
    | false => rw [hb] at h; exact ⟨_, rfl, h⟩
  | pan v h' ps => exact ⟨_, rfl, h⟩

theorem splitJ_fix {out : Out} : ∀ {js : Js} {T : List AV} {yes no : List AV → R}, splitJ js T yes no = some out →
    (∃ T', yes T' = some out ∧ ∀ yes' no', splitJ js T yes' no' = yes' T') ∨ (∃ T', no T' = some out ∧ ∀ yes' no', splitJ js T yes' no' = no' T') := by
  intro js
  induction js with
  | nil => intro T yes no h; exact .inl ⟨_, h, fun _ _ => rfl⟩
  | cons p js ih =>
    intro T yes no h
    obtain ⟨d, w⟩ := p
    simp only [splitJ] at h ⊢
    split at h
    · rename_i c ec
      cases hcw : c == w with
      | true => rw [hcw] at h; exact ih h
      | false => rw [hcw] at h; exact .inr ⟨_, h, fun _ _ => rfl⟩
    · cases h

def FixL (k : St → R) (kp : AV → St → R) (out : Out) (F : (St → R) → (AV → St → R) → R) : Prop :=
  (∃ st, k st = some out ∧ ∀ k' kp', F k' kp' = k' st) ∨ (∃ v st, kp v st = some out ∧ ∀ k' kp', F k' kp' = kp' v st)

theorem opsD_fix {all : Array Oper} (hle : CallLeK call c) {out : Out} : ∀ (l : List Oper) {st : St} {k : St → R} {kp : AV → St → R},
    opsD P pol call fn all l st k kp = some out → FixL k kp out (opsD P pol (bindK c) fn all l st) := by
  intro l
  induction l with
  | nil => intro st k kp h; exact .inl ⟨_, h, fun _ _ => rfl⟩
  | cons o l ih =>
    intro st k kp h
    unfold FixL
    simp only [opsD] at h ⊢
    split at h
    · exact ih h
    · cases h
    · rename_i js hg
      cases hp : pureG P st.T js st.s.h o with
      | some v => rw [hp] at h; exact ih h
      | none =>
        rw [hp] at h
        simp only at h ⊢
        rcases splitJ_fix h with ⟨T', h1, h2⟩ | ⟨T', h1, h2⟩
        · rcases opD_fix hle h1 with ⟨v, s', h3, h4⟩ | ⟨v, s', h3, h4⟩
          · rcases ih h3 with ⟨st', h5, h6⟩ | ⟨v', st', h5, h6⟩
            · exact .inl ⟨st', h5, fun k' kp' => by rw [h2, h4]; exact h6 k' kp'⟩
            · exact .inr ⟨v', st', h5, fun k' kp' => by rw [h2, h4]; exact h6 k' kp'⟩
          · exact .inr ⟨v, _, h3, fun k' kp' => by rw [h2, h4]⟩
        · rcases ih h1 with ⟨st', h3, h4⟩ | ⟨v', st', h3, h4⟩
          · exact .inl ⟨st', h3, fun k' kp' => by rw [h2]; exact h4 k' kp'⟩
          · exact .inr ⟨v', st', h3, fun k' kp' => by rw [h2]; exact h4 k' kp'⟩

theorem opsW_fix {all : Array Oper} {ah : List Nat} (hle : CallLeK call c) {out : Out} : ∀ (l : List Oper) {i m : Nat} {ps : List Fp} {st : St} {k : St → R} {kp : AV → St → R},
    opsW P pol call fn all ah l i m ps st k kp = some out → FixL k kp out (opsW P pol (bindK c) fn all ah l i m ps st) := by
  intro l
  induction l with
  | nil => intro i m ps st k kp h; exact .inl ⟨_, h, fun _ _ => rfl⟩
  | cons o l ih =>
    intro i m ps st k kp h
    unfold FixL
    simp only [opsW] at h ⊢
    split at h
    · exact ih h
    · cases h
    · rename_i js hg
      cases hf : freeOf ah ps (fpOf P pol fn i m (hidGo P pol fn ah i st.s.h all.toList 0 st.T) (evalG st.T js) o) with
      | false => rw [hf] at h; cases h
      | true =>
      rw [hf] at h
      simp only [cond_true] at h ⊢
      cases hp : pureG P st.T js st.s.h o with
      | some v => rw [hp] at h; exact ih h
      | none =>
        rw [hp] at h
        simp only at h ⊢
        cases hh : holdsJ st.T [] js with
        | none => rw [hh] at h; cases h
        | some b =>
          rw [hh] at h
          cases b with
          | true =>
            simp only [cond_true] at h ⊢
            rcases opD_fix hle h with ⟨v, s', h3, h4⟩ | ⟨v, s', h3, h4⟩
            · obtain ⟨hb, h3⟩ := cond_some h3
              rcases ih h3 with ⟨st', h5, h6⟩ | ⟨v', st', h5, h6⟩
              · exact .inl ⟨st', h5, fun k' kp' => by rw [h4]; simp only [hb, cond_true]; exact h6 k' kp'⟩
              · exact .inr ⟨v', st', h5, fun k' kp' => by rw [h4]; simp only [hb, cond_true]; exact h6 k' kp'⟩
            · exact .inr ⟨v, _, h3, fun k' kp' => by rw [h4]⟩
          | false => exact ih h

theorem codeL_fix (hle : CallLeK call c) {out : Out} : ∀ (x : Code) {st : St} {k : Exit → St → R}, codeL P pol call (fun _ _ _ => none) fn x st k = some out →
    ∃ e st', k e st' = some out ∧ ∀ k', codeD P pol (bindK c) n fn x st k' = k' e st' := by
  intro x
  induction x with
  | skip => intro st k h; exact ⟨_, _, h, fun _ => rfl⟩
  | label l => intro st k h; exact ⟨_, _, h, fun _ => rfl⟩
  | exit i => intro st k h; exact ⟨_, _, h, fun _ => rfl⟩
  | ret => intro st k h; exact ⟨_, _, h, fun _ => rfl⟩
  | region id ops draw =>
    intro st k h
    simp only [codeL, codeD] at h ⊢
    cases hc : (draw && !drawOK ops || !regOK ops) with
    | true => rw [hc] at h; cases h
    | false =>
      rw [hc] at h
      cases draw with
      | true =>
        rcases opsW_fix hle _ h with ⟨st', h1, h2⟩ | ⟨v, st', h1, h2⟩
        · exact ⟨_, _, h1, fun k' => by simp only [cond_false, cond_true]; rw [h2]⟩
        · cases hp : panOK P pol fn ops with
          | true => rw [hp] at h1; exact ⟨_, _, h1, fun k' => by simp only [cond_false, cond_true]; rw [h2]⟩
          | false => rw [hp] at h1; cases h1
      | false =>
        rcases opsD_fix hle _ h with ⟨st', h1, h2⟩ | ⟨v, st', h1, h2⟩
        · exact ⟨_, _, h1, fun k' => by simp only [cond_false]; rw [h2]⟩
        · exact ⟨_, _, h1, fun k' => by simp only [cond_false]; rw [h2]⟩
  | seq a b iha ihb =>
    intro st k h
    simp only [codeL, codeD] at h ⊢
    obtain ⟨e, st', h1, h2⟩ := iha h
    cases e with
    | normal =>
      obtain ⟨e', st'', h3, h4⟩ := ihb h1
      exact ⟨e', st'', h3, fun k' => by rw [h2]; exact h4 k'⟩
    | exit i => exact ⟨_, _, h1, fun k' => by rw [h2]⟩
    | ret => exact ⟨_, _, h1, fun k' => by rw [h2]⟩
    | pan v => exact ⟨_, _, h1, fun k' => by rw [h2]⟩
  | cond o x y ihx ihy =>
    intro st k h
    simp only [codeL, codeD] at h ⊢
    split at h
    · rename_i b eb
      simp only [eb]
      cases b with
      | true => exact ihx h
      | false => exact ihy h
    · cases h
  | block i c ih =>
    intro st k h
    simp only [codeL, codeD] at h ⊢
    obtain ⟨e, st', h1, h2⟩ := ih h
    cases e with
    | normal => exact ⟨_, _, h1, fun k' => by rw [h2]⟩
    | exit j =>
      simp only at h1
      cases hj : j == i with
      | true => rw [hj] at h1; exact ⟨_, _, h1, fun k' => by rw [h2]; simp only [hj, cond_true]⟩
      | false => rw [hj] at h1; exact ⟨_, _, h1, fun k' => by rw [h2]; simp only [hj, cond_false]⟩
    | ret => exact ⟨_, _, h1, fun k' => by rw [h2]⟩
    | pan v => exact ⟨_, _, h1, fun k' => by rw [h2]⟩
  | loop x ih => intro st k h; simp only [codeL] at h; cases h
  | scope c ih => intro st k h; exact ih h
  | _ => intro st k h; simp only [codeL] at h; cases h

theorem bodyK_le (hle : CallLeK call c) {args : List AV} {h : List Obj} {ps : PS} {K : Out → R} {out : Out}
    (e : bodyK P pol call (fun _ _ _ => none) fn args h ps K = some out) : ∃ o, K o = some out ∧ bodyD P pol (bindK c) n fn args h ps = some o := by
  simp only [bodyK] at e
  simp only [bodyD]
  split at e
  · rename_i f hf
    split at e
    · rename_i x hx
      simp only [hf, hx]
      obtain ⟨ex, st, hk, h2⟩ := codeL_fix (n := n) hle x e
      rw [h2]
      have go : ∀ {ds : List AV} {pan : Option AV}, leaveK P call f (shutK (pol.full fn) (pol.hold fn) h.length K) ds st pan = some out →
          ∃ o, K o = some out ∧ shut (pol.full fn) (pol.hold fn) h.length (leaveD P (bindK c) f ds st pan) = some o := by
        intro ds pan hl
        obtain ⟨o, h1, h2⟩ := leaveK_le hle ds hl
        obtain ⟨o', h3, h4⟩ := shutK_eq h1
        exact ⟨o', h4, by rw [h2]; exact h3⟩
      unfold kEndK at hk
      cases ex <;> cases ps <;> (cases hds : st.s.ds) <;> simp only [hds] at hk ⊢ <;> first | exact go hk | cases hk
    · cases e
  · cases e

/-- an answer that hangs on something that is there -/
noncomputable def pickX {α : Type} (p : α → Prop) (F : α → R) : R := open Classical in if h : ∃ x, p x then F h.choose else none
theorem pickX_some {α : Type} {p : α → Prop} {F : α → R} {o : Out} (h : pickX p F = some o) : ∃ x, p x ∧ F x = some o := by
  unfold pickX at h
  split at h
  · rename_i hx
    exact ⟨_, hx.choose_spec, h⟩
  · cases h
theorem Tot.pickX {α : Type} {p : α → Prop} {F : α → R} {Q : Out → Prop} (h : ∃ x, p x) (hF : ∀ x, p x → Tot (F x) Q) : Tot (pickX p F) Q := by
  unfold Den.pickX
  rw [dif_pos h]
  exact hF _ h.choose_spec

/-- calls of some functions are gone into; of the others the table tells -/
def inlK (P : Program) (pol : Pol) (fs : FuncId → Bool) (base : CallK) : Nat → CallK
  | 0 => base
  | m + 1 => fun f args h ps K => _root_.cond (fs f) (bodyK P pol (inlK P pol fs base m) (fun _ _ _ => none) f args h ps K) (base f args h ps K)

theorem inlK_le {ext : FuncId → Option CallO} {fs : FuncId → Bool} {base : CallK} (hb : CallLeK base (denA P pol ext)) (hf : ∀ f, fs f = true → ext f = none) : ∀ m, CallLeK (inlK P pol fs base m) (denA P pol ext) := by
  intro m
  induction m with
  | zero => exact hb
  | succ m ih =>
    intro f args h ps K out e
    simp only [inlK] at e
    cases hfs : fs f with
    | true =>
      rw [hfs] at e
      obtain ⟨o, h1, h2⟩ := bodyK_le (n := 0) ih e
      exact ⟨o, h1, denA_of_body (CallLeK.of_le fun _ _ _ _ _ h => h) (hf f hfs) h2⟩
    | false => rw [hfs] at e; exact hb _ _ _ _ _ _ e
end
end Go.Den
