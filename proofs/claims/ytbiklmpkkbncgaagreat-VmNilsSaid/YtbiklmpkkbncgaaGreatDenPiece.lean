/- What a piece of code comes to, whatever is done behind it: rules for pieces, rounds, calls. -/
import Derived.Test.YtbiklmpkkbncgaaGreatDenLimit
set_option linter.unusedSimpArgs false
set_option linter.unusedVariables false
set_option linter.unnecessarySimpa false
namespace Go.Den
open Go

/-- the code comes to an exit and a state of which Q holds -/
def Piece (P : Program) (pol : Pol) (call : CallK) (n : Nat) (fn : FuncId) (c : Code) (st : St) (Q : Exit → St → Prop) : Prop :=
  ∀ (k : Exit → St → R) (out : Out), (∀ e st', Q e st' → k e st' = some out) → codeD P pol call n fn c st k = some out

/-- a part of a text: 0 the first, 1 the second one -/
def Code.part : Code → List Nat → Code
  | .seq a b, 0 :: l => Code.part a l
  | .seq a b, _ :: l => Code.part b l
  | .cond _ a b, 0 :: l => Code.part a l
  | .cond _ a b, _ :: l => Code.part b l
  | .block _ a, _ :: l => Code.part a l
  | .scope a, _ :: l => Code.part a l
  | .loop a, _ :: l => Code.part a l
  | c, _ => c

def bodyOf (P : Program) (f : FuncId) : Code := match P.funcs[f]? with
  | some fn => fn.body.getD .skip
  | none => .skip

section
variable {P : Program} {pol : Pol} {call : CallK} {n : Nat} {fn : FuncId}

theorem Piece.mono {c : Code} {st : St} {Q Q' : Exit → St → Prop} (h : Piece P pol call n fn c st Q) (hQ : ∀ e st', Q e st' → Q' e st') : Piece P pol call n fn c st Q' :=
  fun k out hk => h k out fun e st' q => hk e st' (hQ e st' q)

theorem Piece.seq {a b : Code} {st : St} {Q : Exit → St → Prop} (h : Piece P pol call n fn a st fun e st' => match e with
    | .normal => Piece P pol call n fn b st' Q
    | e => Q e st') : Piece P pol call n fn (.seq a b) st Q := by
  intro k out hk
  simp only [codeD]
  refine h _ out fun e st' q => ?_
  cases e with
  | normal => exact q k out hk
  | exit i => exact hk _ _ q
  | ret => exact hk _ _ q
  | pan v => exact hk _ _ q

theorem Piece.block {i : Nat} {c : Code} {st : St} {Q : Exit → St → Prop} (h : Piece P pol call n fn c st fun e st' => match e with
    | .exit j => cond (j == i) (Q .normal st') (Q (.exit j) st')
    | e => Q e st') : Piece P pol call n fn (.block i c) st Q := by
  intro k out hk
  simp only [codeD]
  refine h _ out fun e st' q => ?_
  cases e with
  | normal => exact hk _ _ q
  | exit j =>
    simp only at q ⊢
    cases hj : j == i with
    | true => rw [hj] at q; exact hk _ _ q
    | false => rw [hj] at q; exact hk _ _ q
  | ret => exact hk _ _ q
  | pan v => exact hk _ _ q

theorem Piece.scope {c : Code} {st : St} {Q : Exit → St → Prop} (h : Piece P pol call n fn c st Q) : Piece P pol call n fn (.scope c) st Q := fun k out hk => h k out hk

theorem Piece.cond {o : Operand} {a b : Code} {st : St} {Q : Exit → St → Prop} {w : Bool} (hw : eval st.T o = .bool w)
    (h : cond w (Piece P pol call n fn a st Q) (Piece P pol call n fn b st Q)) : Piece P pol call n fn (.cond o a b) st Q := by
  intro k out hk
  simp only [codeD, hw]
  cases w with
  | true => exact h k out hk
  | false => exact h k out hk

theorem Piece.skip {st : St} {Q : Exit → St → Prop} (h : Q .normal st) : Piece P pol call n fn .skip st Q := fun k out hk => hk _ _ h
theorem Piece.exit {i : Nat} {st : St} {Q : Exit → St → Prop} (h : Q (.exit i) st) : Piece P pol call n fn (.exit i) st Q := fun k out hk => hk _ _ h
theorem Piece.ret {st : St} {Q : Exit → St → Prop} (h : Q .ret st) : Piece P pol call n fn .ret st Q := fun k out hk => hk _ _ h

/-- rounds: m is more than the rounds to come -/
theorem Piece.loop {c : Code} {st : St} {Q : Exit → St → Prop} {keep : Bool} (hkeep : pol.keep fn = keep) {s0 : St} (hs : promote (pol.prom fn (regOf c)) st = s0) {H : Nat} (hH : s0.s.h.length = H)
    (I : Nat → St → Prop) (m : Nat) (hm : m < n) (h0 : I m s0)
    (step : ∀ m st, m < n → I m st → Piece P pol call n fn c st fun e st' => match e with
      | .normal => ∃ m', m' < m ∧ I m' (_root_.cond keep st' (st'.cut H))
      | e => Q e st') : Piece P pol call n fn (.loop c) st Q := by
  intro k out hk
  simp only [codeD, hkeep, hs, hH]
  have key : ∀ (f m : Nat) (st : St), m < f → f ≤ n → I m st → loopD keep H (codeD P pol call n fn c) f st k = some out := by
    intro f
    induction f with
    | zero => intro m st h; omega
    | succ f ih =>
      intro m st hm hf hI
      simp only [loopD]
      refine step m st (by omega) hI _ out fun e st' q => ?_
      cases e with
      | normal =>
        obtain ⟨m', h1, h2⟩ := q
        exact ih m' _ (by omega) (by omega) h2
      | exit i => exact hk _ _ q
      | ret => exact hk _ _ q
      | pan v => exact hk _ _ q
  exact key n m s0 hm (Nat.le_refl _) h0

/-- a function that is called plainly and ends plainly, without deferred calls -/
theorem body_of_does {f : Func} {args : List AV} {h : List Obj} {out : Out} (hf : P.funcs[fn]? = some f) (hb : f.body.isSome = true) (Q : St → Prop)
    (hd : Piece P pol call n fn (bodyOf P fn) ⟨startT P f args, ⟨h, [], .plain⟩⟩ fun e st => (e = .ret ∨ e = .normal) ∧ Q st)
    (hQ : ∀ st, Q st → shut (pol.full fn) (pol.hold fn) h.length (leaveD P call f st.s.ds st none) = some out) : bodyD P pol call n fn args h .plain = some out := by
  cases hb' : f.body with
  | none => rw [hb'] at hb; cases hb
  | some c =>
    have hbo : bodyOf P fn = c := by unfold bodyOf; rw [hf]; simp [hb']
    rw [hbo] at hd
    simp only [bodyD, hf, hb']
    refine hd _ out fun e st ⟨he, q⟩ => ?_
    rcases he with rfl | rfl
    · exact hQ st q
    · exact hQ st q
end


/-- a text whose loops are taken from a table (by the number of a loop's first region) -/
abbrev LoopK := Nat → St → (Exit → St → R) → R

def codeL (P : Program) (pol : Pol) (call : CallK) (loops : LoopK) (fn : FuncId) : Code → St → (Exit → St → R) → R
  | .skip, st, k => k .normal st
  | .label _, st, k => k .normal st
  | .region id ops draw, st, k => _root_.cond (draw && !drawOK ops || !regOK ops) none
      (_root_.cond draw
        (opsW P pol call fn ops (aheadOf ops) ops.toList 0 st.s.h.length [] (withUnborn (births P pol fn ops.toList) st) (fun st' => k .normal (killSt (pol.dead fn id) (clearG (anyGuard ops.toList) st'))) (fun v st' => _root_.cond (panOK P pol fn ops) (k (.pan v) (wipe ops st')) none))
        (opsD P pol call fn ops ops.toList st (fun st' => k .normal (killSt (pol.dead fn id) (clearG (anyGuard ops.toList) st'))) (fun v st' => k (.pan v) (clearG true st'))))
  | .seq a b, st, k => codeL P pol call loops fn a st fun e st' => match e with
    | .normal => codeL P pol call loops fn b st' k
    | e => k e st'
  | .cond c x y, st, k => match eval st.T c with
    | .bool b => _root_.cond b (codeL P pol call loops fn x st k) (codeL P pol call loops fn y st k)
    | _ => none
  | .block i c, st, k => codeL P pol call loops fn c st fun e st' => match e with
    | .exit j => _root_.cond (j == i) (k .normal st') (k (.exit j) st')
    | e => k e st'
  | .loop c, st, k => loops (regOf c) st k
  | .scope c, st, k => codeL P pol call loops fn c st k
  | .exit i, st, k => k (.exit i) st
  | .ret, st, k => k .ret st
  | _, _, _ => none

def loopsOf : Code → List (Nat × Code)
  | .seq a b => loopsOf a ++ loopsOf b
  | .cond _ a b => loopsOf a ++ loopsOf b
  | .block _ a => loopsOf a
  | .scope a => loopsOf a
  | .loop c => [(regOf c, c)]
  | _ => []

/-- what the table says of these loops is so -/
def LoopsOk (P : Program) (pol : Pol) (c : CallO) (n : Nat) (fn : FuncId) (loops : LoopK) (l : List (Nat × Code)) : Prop :=
  ∀ p ∈ l, ∀ (st : St) (k : Exit → St → R) (out : Out), loops p.1 st k = some out → codeD P pol (bindK c) n fn (.loop p.2) st k = some out

section
variable {P : Program} {pol : Pol} {call : CallK} {c : CallO} {n : Nat} {fn : FuncId} {loops : LoopK}

theorem codeL_le (hle : CallLeK call c) {out : Out} : ∀ (x : Code) {st : St} {k k' : Exit → St → R}, LoopsOk P pol c n fn loops (loopsOf x) →
    (∀ e st, k e st = some out → k' e st = some out) → codeL P pol call loops fn x st k = some out → codeD P pol (bindK c) n fn x st k' = some out := by
  intro x
  induction x with
  | skip => intro st k k' _ hk h; exact hk _ _ h
  | label l => intro st k k' _ hk h; exact hk _ _ h
  | exit i => intro st k k' _ hk h; exact hk _ _ h
  | ret => intro st k k' _ hk h; exact hk _ _ h
  | region id ops draw =>
    intro st k k' _ hk h
    simp only [codeL, codeD] at h ⊢
    cases hc : (draw && !drawOK ops || !regOK ops) with
    | true => rw [hc] at h; cases h
    | false =>
      rw [hc] at h
      cases draw with
      | true =>
        refine opsW_mono hle _ (fun st h => hk _ _ h) (fun v st h => ?_) h
        cases hp : panOK P pol fn ops with
        | true => rw [hp] at h; exact hk _ _ h
        | false => rw [hp] at h; cases h
      | false => exact opsD_mono hle _ (fun st h => hk _ _ h) (fun v st h => hk _ _ h) h
  | seq a b iha ihb =>
    intro st k k' hL hk h
    simp only [codeL, codeD] at h ⊢
    refine iha (fun p hp => hL p (List.mem_append_left _ hp)) (fun e st h => ?_) h
    cases e with
    | normal => exact ihb (fun p hp => hL p (List.mem_append_right _ hp)) hk h
    | exit i => exact hk _ _ h
    | ret => exact hk _ _ h
    | pan v => exact hk _ _ h
  | cond o x y ihx ihy =>
    intro st k k' hL hk h
    simp only [codeL, codeD] at h ⊢
    split at h
    · rename_i b eb
      simp only [eb]
      cases b with
      | true => exact ihx (fun p hp => hL p (List.mem_append_left _ hp)) hk h
      | false => exact ihy (fun p hp => hL p (List.mem_append_right _ hp)) hk h
    · cases h
  | block i c ih =>
    intro st k k' hL hk h
    simp only [codeL, codeD] at h ⊢
    refine ih hL (fun e st h => ?_) h
    cases e with
    | normal => exact hk _ _ h
    | exit j =>
      simp only at h ⊢
      cases hj : j == i with
      | true => rw [hj] at h; exact hk _ _ h
      | false => rw [hj] at h; exact hk _ _ h
    | ret => exact hk _ _ h
    | pan v => exact hk _ _ h
  | loop x ih =>
    intro st k k' hL hk h
    simp only [codeL] at h
    have := hL (regOf x, x) (List.mem_singleton.2 rfl) st k out h
    have h2 := codeD_mono (P := P) (pol := pol) (call := bindK c) (c' := c) (CallLeK.of_le fun _ _ _ _ _ h => h) (Nat.le_refl n) (.loop x) hk this
    exact h2
  | scope c ih => intro st k k' hL hk h; exact ih hL hk h
  | _ => intro st k k' _ hk h; simp only [codeL] at h; cases h

/-- what is done behind a body -/
def kEnd (P : Program) (pol : Pol) (call : CallK) (f : Func) (fn : FuncId) (n : Nat) (ps : PS) : Exit → St → R := fun e st => shut (pol.full fn) (pol.hold fn) n <|
  match e, ps, st.s.ds with
  | .normal, .plain, ds | .ret, .plain, ds => leaveD P call f ds st none
  | .pan v, .plain, ds => leaveD P call f ds st (some v)
  | .normal, _, [] | .ret, _, [] => leaveD P call f [] st none
  | _, _, _ => none

/-- a body whose loops are taken from a table -/
def bodyL (P : Program) (pol : Pol) (call : CallK) (loops : LoopK) (fn : FuncId) (args : List AV) (h : List Obj) (ps : PS) : R :=
  match P.funcs[fn]? with
  | some f => match f.body with
    | some c => codeL P pol call loops fn c ⟨startT P f args, ⟨h, [], ps⟩⟩ (kEnd P pol call f fn h.length ps)
    | none => none
  | none => none

def kSeq (P : Program) (pol : Pol) (call : CallK) (loops : LoopK) (fn : FuncId) (b : Code) (k : Exit → St → R) : Exit → St → R := fun e st' => match e with
  | .normal => codeL P pol call loops fn b st' k
  | e => k e st'
def kBlk (i : Nat) (k : Exit → St → R) : Exit → St → R := fun e st' => match e with
  | .exit j => _root_.cond (j == i) (k .normal st') (k (.exit j) st')
  | e => k e st'
/-- what is done behind a part of a text -/
def kAt (P : Program) (pol : Pol) (call : CallK) (loops : LoopK) (fn : FuncId) : Code → List Nat → (Exit → St → R) → (Exit → St → R)
  | .seq a b, 0 :: l, k => kAt P pol call loops fn a l (kSeq P pol call loops fn b k)
  | .seq _ b, _ :: l, k => kAt P pol call loops fn b l k
  | .cond _ a _, 0 :: l, k => kAt P pol call loops fn a l k
  | .cond _ _ b, _ :: l, k => kAt P pol call loops fn b l k
  | .block i a, _ :: l, k => kAt P pol call loops fn a l (kBlk i k)
  | .scope a, _ :: l, k => kAt P pol call loops fn a l k
  | _, _, k => k

/-- behind a part of a body -/
def kBody (P : Program) (pol : Pol) (call : CallK) (loops : LoopK) (fn : FuncId) (l : List Nat) (n : Nat) (ps : PS) : Exit → St → R :=
  match P.funcs[fn]? with
  | some f => kAt P pol call loops fn (f.body.getD .skip) l (kEnd P pol call f fn n ps)
  | none => fun _ _ => none

theorem bodyL_le (hle : CallLeK call c) (hL : LoopsOk P pol c n fn loops (loopsOf (bodyOf P fn))) {args : List AV} {h : List Obj} {ps : PS} {out : Out}
    (e : bodyL P pol call loops fn args h ps = some out) : bodyD P pol (bindK c) n fn args h ps = some out := by
  simp only [bodyL] at e
  simp only [bodyD]
  split at e
  · rename_i f hf
    split at e
    · rename_i x hx
      have hb : bodyOf P fn = x := by unfold bodyOf; simp [hf, hx]
      rw [hb] at hL
      simp only [hf, hx]
      refine codeL_le hle x hL (fun ex st h => ?_) e
      have sh : ∀ {r r' : R}, (∀ o, r = some o → r' = some o) → ∀ {full hold : Bool} {m : Nat} {o : Out}, shut full hold m r = some o → shut full hold m r' = some o := by
        intro r r' hr full hold m o hs
        cases r with
        | none => cases hs
        | some x => rw [hr x rfl]; exact hs
      unfold kEnd at h
      refine sh (fun o h => ?_) h
      cases ex <;> cases ps <;> (cases hds : st.s.ds) <;> simp only [hds] at h ⊢ <;> first | exact leaveD_mono hle _ h | cases h
    · cases e
  · cases e

/-- loops as they are -/
def lkC : List (Nat × Code) → Nat → Code
  | [], _ => .skip
  | (r, c) :: l, r' => _root_.cond (r == r') c (lkC l r')
def lpR (P : Program) (pol : Pol) (c : CallO) (n : Nat) (fn : FuncId) (l : List (Nat × Code)) : LoopK := fun r st k => codeD P pol (bindK c) n fn (.loop (lkC l r)) st k
def keysOK : List (Nat × Code) → Bool
  | [] => true
  | (r, _) :: l => !(l.any fun p => p.1 == r) && keysOK l
theorem lkC_mem : ∀ {l : List (Nat × Code)}, keysOK l = true → ∀ p ∈ l, lkC l p.1 = p.2
  | [], _, p, h => by cases h
  | (r, x) :: l, hk, p, h => by
    simp only [keysOK, Bool.and_eq_true, Bool.not_eq_true', List.any_eq_false] at hk
    rcases List.mem_cons.1 h with rfl | h
    · simp [lkC]
    · have hne : (r == p.1) = false := by
        have := hk.1 p h
        simp at this ⊢
        exact fun e => this e.symm
      simp only [lkC, hne, cond_false]
      exact lkC_mem hk.2 p h
theorem lpR_ok {l : List (Nat × Code)} (h : keysOK l = true) : LoopsOk P pol c n fn (lpR P pol c n fn l) l := by
  intro p hp st k out e
  unfold lpR at e
  rw [lkC_mem h p hp] at e
  exact e

/-- a function, by what is left of its body, its loops being as they are -/
theorem denA_of_loops {ext : FuncId → Option CallO} (n : Nat) (hle : CallLeK call (denA P pol ext)) (hf : ext fn = none) (hk : keysOK (loopsOf (bodyOf P fn)) = true) {args : List AV} {h : List Obj} {ps : PS} {out : Out}
    (e : bodyL P pol call (lpR P pol (denA P pol ext) n fn (loopsOf (bodyOf P fn))) fn args h ps = some out) : denA P pol ext fn args h ps = some out :=
  denA_of_body (CallLeK.of_le fun _ _ _ _ _ h => h) hf (bodyL_le hle (lpR_ok hk) e)

/-- one loop, by rounds: the k-th state, what the last one comes to -/
theorem loop_rounds (hle : CallLeK call c) {inner : LoopK} {x : Code} {st : St} {k : Exit → St → R} {out : Out} {keep : Bool} (hkeep : pol.keep fn = keep)
    (hin : LoopsOk P pol c n fn inner (loopsOf x)) (S : Nat → St) (m : Nat) (hm : m < n) (h0 : promote (pol.prom fn (regOf x)) st = S 0) {H : Nat} (hH : (S 0).s.h.length = H)
    (next : ∀ i, i < m → ∀ K : Exit → St → R, (∀ st', _root_.cond keep st' (st'.cut H) = S (i + 1) → K .normal st' = some out) → codeL P pol call inner fn x (S i) K = some out)
    (last : ∀ K : Exit → St → R, (∀ e st', e ≠ .normal → K e st' = k e st') → codeL P pol call inner fn x (S m) K = some out) : codeD P pol (bindK c) n fn (.loop x) st k = some out := by
  simp only [codeD, hkeep, h0, hH]
  have key : ∀ (f i : Nat), i ≤ m → m - i < f → f ≤ n → loopD keep H (codeD P pol (bindK c) n fn x) f (S i) k = some out := by
    intro f
    induction f with
    | zero => intro i _ h; omega
    | succ f ih =>
      intro i hi hf hn
      simp only [loopD]
      by_cases hlt : i < m
      · refine codeL_le hle x hin (k := fun e st' => match e with | .normal => loopD keep H (codeD P pol (bindK c) n fn x) f (_root_.cond keep st' (st'.cut H)) k | e => k e st') (fun e st h => h) ?_
        refine next i hlt _ fun st' h2 => ?_
        simp only
        rw [h2]
        exact ih (i + 1) (by omega) (by omega) (by omega)
      · have hie : i = m := by omega
        subst hie
        refine codeL_le hle x hin (k := fun e st' => match e with | .normal => loopD keep H (codeD P pol (bindK c) n fn x) f (_root_.cond keep st' (st'.cut H)) k | e => k e st') (fun e st h => h) ?_
        refine last _ fun e st' he => ?_
        cases e <;> first | exact absurd rfl he | rfl
  exact key n 0 (Nat.zero_le _) (by omega) (Nat.le_refl _)

end
/-- an answer under a condition -/
noncomputable def chk (p : Prop) (r : R) : R := open Classical in if p then r else none
theorem chk_pos {p : Prop} {r : R} (h : p) : chk p r = r := if_pos h
theorem chk_some {p : Prop} {r : R} {o : Out} (h : chk p r = some o) : p ∧ r = some o := by
  unfold chk at h
  split at h
  · exact ⟨by assumption, h⟩
  · cases h

/-- it answers, and of the answer Q holds -/
def Tot (r : R) (Q : Out → Prop) : Prop := ∃ o, r = some o ∧ Q o
theorem Tot.cond {b : Bool} {x y : R} {Q : Out → Prop} (h1 : b = true → Tot x Q) (h2 : b = false → Tot y Q) : Tot (_root_.cond b x y) Q := by
  cases b with
  | true => exact h1 rfl
  | false => exact h2 rfl
theorem Tot.some {o : Out} {Q : Out → Prop} (h : Q o) : Tot (some o) Q := ⟨o, rfl, h⟩
theorem Tot.dite {c : Prop} [Decidable c] {x : c → R} {y : ¬c → R} {Q : Out → Prop} (hc : c) (h : Tot (x hc) Q) : Tot (dite c x y) Q := by rw [dif_pos hc]; exact h
theorem Tot.chk {p : Prop} {r : R} {Q : Out → Prop} (hp : p) (h : Tot r Q) : Tot (chk p r) Q := by rw [chk_pos hp]; exact h
theorem Tot.mono {r : R} {Q Q' : Out → Prop} (h : Tot r Q) (hQ : ∀ o, Q o → Q' o) : Tot r Q' := let ⟨o, h1, h2⟩ := h; ⟨o, h1, hQ o h2⟩
theorem Tot.of_eq {r : R} {o : Out} (h : Tot r (· = o)) : r = Option.some o := by obtain ⟨o', h1, rfl⟩ := h; exact h1

section
variable {P : Program} {pol : Pol} {call : CallK} {c : CallO} {n : Nat} {fn : FuncId}

/-- rounds of a loop that ends with one of them, at the m-th at the latest; what a round finds may hang on the rounds ahead of it -/
theorem loop_tot {α : Type} {Q : Out → Prop} {calls : Nat → CallK} (hle : ∀ i, CallLeK (calls i) c) {inner : LoopK} {x : Code} {st : St} {k : Exit → St → R} {keep : Bool} (hkeep : pol.keep fn = keep)
    (hin : LoopsOk P pol c n fn inner (loopsOf x)) (S : Nat → α → St) (Inv : Nat → α → Prop) (m : Nat) (hm : m < n) (a₀ : α) (hI : Inv 0 a₀) (h0 : promote (pol.prom fn (regOf x)) st = S 0 a₀) {H : Nat} (hH : (S 0 a₀).s.h.length = H)
    (next : ∀ i a, i ≤ m → Inv i a → ∀ K : Exit → St → R, (∀ st' a', i < m → Inv (i + 1) a' → _root_.cond keep st' (st'.cut H) = S (i + 1) a' → Tot (K .normal st') Q) → (∀ e st', e ≠ .normal → K e st' = k e st') →
      Tot (codeL P pol (calls i) inner fn x (S i a) K) Q) : Tot (codeD P pol (bindK c) n fn (.loop x) st k) Q := by
  simp only [codeD, hkeep, h0, hH]
  have key : ∀ (f i : Nat) (a : α), Inv i a → i ≤ m → m - i < f → f ≤ n → Tot (loopD keep H (codeD P pol (bindK c) n fn x) f (S i a) k) Q := by
    intro f
    induction f with
    | zero => intro i _ _ _ h; omega
    | succ f ih =>
      intro i a hIi hi hf hn
      simp only [loopD]
      have := next i a hi hIi (fun e st' => match e with | .normal => loopD keep H (codeD P pol (bindK c) n fn x) f (_root_.cond keep st' (st'.cut H)) k | e => k e st')
        (fun st' a' hlt hI' h2 => by simp only; rw [h2]; exact ih (i + 1) a' hI' (by omega) (by omega) (by omega)) (fun e st' he => by cases e <;> first | exact absurd rfl he | rfl)
      obtain ⟨o, h1, h2⟩ := this
      exact ⟨o, codeL_le (hle i) x hin (fun e st h => h) h1, h2⟩
  exact key n 0 a₀ hI (Nat.zero_le _) (by omega) (Nat.le_refl _)

theorem lpR_tot {Q : Out → Prop} {l : List (Nat × Code)} {r : Nat} {x : Code} (hx : lkC l r = x) {st : St} {k : Exit → St → R} (h : Tot (codeD P pol (bindK c) n fn (.loop x) st k) Q) : Tot (lpR P pol c n fn l r st k) Q := by
  unfold lpR; rw [hx]; exact h

theorem denA_tot {ext : FuncId → Option CallO} {Q : Out → Prop} (n : Nat) (hle : CallLeK call (denA P pol ext)) (hf : ext fn = none) (hk : keysOK (loopsOf (bodyOf P fn)) = true) {args : List AV} {h : List Obj} {ps : PS}
    (e : Tot (bodyL P pol call (lpR P pol (denA P pol ext) n fn (loopsOf (bodyOf P fn))) fn args h ps) Q) : Tot (denA P pol ext fn args h ps) Q := by
  obtain ⟨o, h1, h2⟩ := e
  exact ⟨o, denA_of_loops n hle hf hk h1, h2⟩
end
end Go.Den
