/- Code. -/
import Derived.Test.YtbiklmpkkbncgaaGreatDenDraw
import Derived.Scope
set_option linter.unusedSimpArgs false
set_option linter.unusedVariables false
set_option linter.unnecessarySimpa false
namespace Go.Den
open Go

def ExR (c : Cx) : Den.Exit → Go.Exit → Prop
  | .normal, .normal => True
  | .exit i, .exit j => i = j
  | .ret, .ret => True
  | .pan v, .panic chain => ∃ x, chain = [{ v := x, recovered := false }] ∧ VR c v x
  | _, _ => False

/-- What a reading of a piece of code says is so. -/
def CodeSound (P : Program) (base : Base) (its : List Item) (B : St → (Den.Exit → St → R) → R) : Prop :=
  ∀ {st : St} {k : Den.Exit → St → R} {out : Out} {c : Cx} {a : Act} {cs : List Frame}, B st k = some out → FrS base c st a cs →
    ∀ Q : Post, (∀ e st' c' a' cs' e', k e st' = some out → ExR c' e e' → Evol c c' → FrS base c' st' a' cs' → Q e' a' cs' c'.w) → Runs P base.kind its Q a cs c.w

theorem Runs.scope {P : Program} {kd : CallKind} {Q : Post} {a : Act} {cs : List Frame} {w : World} {c : Code} (h : Runs P kd [.code c] (fun e a cs w => match e with
      | .goto _ => False
      | e => Q e a cs w) a cs w) : Runs P kd [.code (.scope c)] Q a cs w := by
  intro b k hb hr
  obtain ⟨e, a₁, cs₁, w₁, q, r⟩ := h b (.inScope c :: k) hb hr
  cases e with
  | normal => exact ⟨.normal, a₁, cs₁, w₁, q, .head step_scope (Steps.trans r (.one step_inScope))⟩
  | exit j => exact ⟨.exit j, a₁, cs₁, w₁, q, fun k' hk => .head step_scope (r k' (by simp [exitTo, hk]))⟩
  | goto l => exact q.elim
  | ret => exact ⟨_, a₁, cs₁, w₁, q, .of_steps (.one step_scope) r⟩
  | panic ch => exact ⟨_, a₁, cs₁, w₁, q, .of_steps (.one step_scope) r⟩
  | outgrown => exact ⟨_, a₁, cs₁, w₁, q, .of_steps (b := b) (k := k) (e := .outgrown) (.one step_scope) r⟩

section
variable {P : Program} {base : Base}

theorem slots_clear {c : Cx} {T : List AV} {tm : Array Value} {g : Bool} {s : Hs} (h : SlotsG c T tm) (hg : ∀ (j : Nat) js v, T[j]? = some (.gd js v) → g = true) : SlotsR c (clearG g ⟨T, s⟩).T tm := by
  cases g with
  | true =>
    refine ⟨by simp [clearG, h.size], fun j u x e1 e2 => ?_⟩
    simp only [clearG, cond_true, List.getElem?_map, Option.map_eq_some_iff] at e1
    obtain ⟨u', e1, rfl⟩ := e1
    have := h.at' j u' x e1 e2
    cases u' with
    | gd js v => exact .top x
    | _ => exact this
  | false =>
    refine ⟨h.size, fun j u x e1 e2 => ?_⟩
    have := h.at' j u x e1 e2
    cases u with
    | gd js v => exact absurd (hg j js v e1) (by simp)
    | _ => exact this

theorem mask_len : ∀ (T : List AV) (m : Nat), (maskT m T).length = T.length
  | [], _ => rfl
  | v :: T, m => by
    unfold maskT
    cases m == 0 with
    | true => rfl
    | false => simp [mask_len T (m / 2)]
theorem mask_at : ∀ (T : List AV) (m j : Nat) {u : AV}, (maskT m T)[j]? = some u → u = .top ∨ T[j]? = some u
  | [], _, j, u, e => by simp [maskT] at e
  | v :: T, m, j, u, e => by
    unfold maskT at e
    cases hm : m == 0 with
    | true => rw [hm] at e; exact .inr e
    | false =>
      rw [hm] at e
      simp only [cond_false] at e
      cases j with
      | zero =>
        simp at e
        cases hb : m % 2 == 1 with
        | true => rw [hb] at e; exact .inl e.symm
        | false => rw [hb] at e; exact .inr (by simpa using e)
      | succ j =>
        rw [List.getElem?_cons_succ] at e ⊢
        exact mask_at T (m / 2) j e
theorem kill_slots {c : Cx} {st : St} {tm : Array Value} {m : Nat} (h : SlotsR c st.T tm) : SlotsR c (killSt m st).T tm := by
  unfold killSt
  cases m == 0 with
  | true => exact h
  | false =>
    refine ⟨by simp [mask_len, h.size], fun j u x e1 e2 => ?_⟩
    rcases mask_at _ _ _ e1 with rfl | e1
    · exact .top x
    · exact h.at' j u x e1 e2
theorem kill_s {m : Nat} {st : St} : (killSt m st).s = st.s := by
  unfold killSt
  cases m == 0 <;> rfl

theorem clear_s {g : Bool} {st : St} : (clearG g st).s = st.s := by cases g <;> rfl

theorem no_gd {c : Cx} {T : List AV} {tm : Array Value} (h : SlotsR c T tm) {all : Array Oper} : GdOK all 0 T := by
  intro j js v e
  have hj : j < tm.size := by rw [h.size]; exact (List.getElem?_eq_some_iff.1 e).1
  exact absurd (h.at' j _ _ e (Array.getElem?_eq_getElem hj)) VR.not_gd

/-- places for objects that may be born -/
theorem unborn_sound {s : Hs} {ds : List Deferred} {cs : List Frame} : ∀ (m : Nat) {c : Cx} {h : List Den.Obj}, Fr base c { s with h := h } ds cs →
    ∃ c', c'.w = c.w ∧ Evol c c' ∧ Fr base c' { s with h := h ++ List.replicate m .unborn } ds cs := by
  intro m
  induction m with
  | zero => intro c h hF; exact ⟨c, rfl, Evol.refl c, by simpa using hF⟩
  | succ m ih =>
    intro c h hF
    obtain ⟨hE, hR⟩ := evol_push hF.rel (w' := c.w) rfl rfl rfl (Nat.le_refl _) (fun b hb => rfl) .unborn .none (fun b off h => h.elim) (fun _ => trivial)
    have hF' : Fr base { c with h := c.h ++ [.unborn], g := c.g ++ [.none], w := c.w } { s with h := h ++ [.unborn] } ds cs := ⟨hR, by rw [hF.h], hF.ds.ext hE.ext, hF.ps.ext hE.ext⟩
    obtain ⟨c', h1, h2, h3⟩ := ih hF'
    refine ⟨c', h1, hE.trans h2, ?_⟩
    rw [List.append_assoc] at h3
    exact h3

theorem region_sound (hok : Okay P) {call : CallO} (hcall : CallSound P call) {pol : Pol} {fuel : Nat} {fn : FuncId} {id : Nat} {ops : Array Oper} {draw : Bool} :
    CodeSound P base [.code (.region id ops draw)] (codeD P pol (bindK call) fuel fn (.region id ops draw)) := by
  intro st k out c a cs h hF Q hQ
  obtain ⟨T, s⟩ := st
  simp only [codeD] at h
  cases hc : (draw && !drawOK ops || !regOK ops) with
  | true => rw [hc] at h; cases h
  | false =>
    rw [hc] at h
    simp only [cond_false] at h
    simp only [Bool.or_eq_false_iff, Bool.and_eq_false_iff, Bool.not_eq_false'] at hc
    obtain ⟨hd, hreg⟩ := hc
    cases draw with
    | false =>
      refine Runs.region ?_
      rw [show List.range ops.size = List.range' 0 ops.size from List.range_eq_range']
      refine opsD_text hok hcall hreg ops.size 0 (by simp) (by simpa using h) hF.fr hF.slots.toG (no_gd hF.slots) Q ?_ ?_
      · intro st' c' a' cs' hk hE hF' hS' hG'
        refine hQ _ _ c' a' cs' .normal hk trivial hE ⟨by rw [kill_s, clear_s]; exact hF', kill_slots (slots_clear (s := st'.s) hS' fun j js v e => (hG' j js v e).1)⟩
      · intro v st' c' x a' cs' hk hE hF' hS' hv
        exact hQ _ _ c' a' cs' _ hk ⟨x, rfl, hv⟩ hE ⟨by rw [clear_s]; exact hF', slots_clear (s := st'.s) hS' fun _ _ _ _ => rfl⟩
    | true =>
      have hd : drawOK ops = true := by simpa using hd
      refine Runs.region_draw hok.mixed fun t => ?_
      obtain ⟨hE, hR⟩ := evol_drew hF.fr.rel
      have hF₀ : Fr base { c with w := c.w.drew } s a.defers cs := ⟨hR, hF.fr.h, hF.fr.ds.ext hE.ext, hF.fr.ps.ext hE.ext⟩
      obtain ⟨c₁, hw₁, hE₁, hF'⟩ := unborn_sound (births P pol fn ops.toList) hF₀
      have hE := hE.trans hE₁
      have hw₁ : c₁.w = c.w.drew := hw₁
      rw [show ({ heap := c.w.heap, tape := c.w.tape, drawn := c.w.drawn + 1, os := c.w.os, output := c.w.output } : World) = c₁.w from hw₁.symm]
      refine opsW_drawn hok hcall hd (by simpa [withUnborn] using h) (fun v st hk => ?_) hF' (hF.slots.ext hE.ext) t Q ?_ ?_
      · cases hp : panOK P pol fn ops with
        | true => rfl
        | false => simp [hp] at hk
      rotate_left
      · intro v st' x c' a' cs' hk hE' hF'' hS' hv
        cases hp : panOK P pol fn ops with
        | false => simp [hp] at hk
        | true =>
          simp only [hp, cond_true] at hk
          exact hQ _ _ c' a' cs' _ hk ⟨x, rfl, hv⟩ (hE.trans hE') ⟨hF'', hS'⟩
      intro st' c' a' cs' hk hE' hF'' hS' hG'
      exact hQ _ _ c' a' cs' .normal hk trivial (hE.trans hE') ⟨by rw [kill_s, clear_s]; exact hF'', kill_slots (slots_clear (s := st'.s) hS' hG')⟩

theorem loop_sound {B : St → (Den.Exit → St → R) → R} {x : Code} (hB : CodeSound P base [.code x] B) {keep : Bool} {h0 : Nat} : ∀ (n : Nat) {st : St} {k : Den.Exit → St → R} {out : Out} {c₀ c : Cx} {a : Act} {cs : List Frame},
    loopD keep h0 B n st k = some out → c₀.h.length ≤ h0 → h0 ≤ c.h.length → Evol c₀ c → FrS base c st a cs → ∀ Q : Post,
    (∀ e st' c' a' cs' e', k e st' = some out → ExR c' e e' → Evol c₀ c' → FrS base c' st' a' cs' → Q e' a' cs' c'.w) →
    Runs P base.kind [.code x] (onNormal (Runs P base.kind [.inLoop x] Q) Q) a cs c.w := by
  intro n
  induction n with
  | zero => intro st k out c₀ c a cs h; cases h
  | succ n ih =>
    intro st k out c₀ c a cs h hl₀ hl hE hF Q hQ
    simp only [loopD] at h
    refine hB h hF _ fun e st' c' a' cs' e' hk hX hE' hF' => ?_
    have hlen : h0 ≤ c'.h.length := Nat.le_trans hl hE'.ext.len
    cases e with
    | normal =>
      cases e' <;> simp [ExR] at hX
      simp only at hk
      simp only [onNormal]
      cases keep with
      | true =>
        simp only [cond_true] at hk
        exact Runs.inLoop (ih hk hl₀ hlen (hE.trans hE') hF' Q hQ)
      | false =>
        simp only [cond_false] at hk
        have hlen' : h0 ≤ st'.s.h.length := by rw [← hF'.fr.h]; exact hlen
        have hFc : FrS base (c'.cut h0) (st'.cut h0) a' cs' := ⟨cut_fr hF'.fr hlen', cut_slots hF'.slots hlen⟩
        exact Runs.inLoop (ih hk hl₀ (by rw [cut_h hlen]; exact Nat.le_refl _) (cut_evol (hE.trans hE') hl₀ hlen) hFc Q hQ)
    | exit i =>
      cases e' <;> simp [ExR] at hX
      subst hX
      exact hQ _ _ c' a' cs' _ hk rfl (hE.trans hE') hF'
    | ret =>
      cases e' <;> simp [ExR] at hX
      exact hQ _ _ c' a' cs' _ hk trivial (hE.trans hE') hF'
    | pan v =>
      cases e' <;> simp only [ExR] at hX
      obtain ⟨x', rfl, hv⟩ := hX
      exact hQ _ _ c' a' cs' _ hk ⟨x', rfl, hv⟩ (hE.trans hE') hF'

theorem codeD_sound (hok : Okay P) {call : CallO} (hcall : CallSound P call) {pol : Pol} {fuel : Nat} {fn : FuncId} : ∀ (x : Code), CodeSound P base [.code x] (codeD P pol (bindK call) fuel fn x) := by
  intro x
  induction x with
  | skip => intro st k out c a cs h hF Q hQ; exact Runs.skip (hQ _ _ c a cs .normal h trivial (Evol.refl c) hF)
  | label l => intro st k out c a cs h hF Q hQ; exact Runs.label (hQ _ _ c a cs .normal h trivial (Evol.refl c) hF)
  | exit i => intro st k out c a cs h hF Q hQ; exact Runs.exit (hQ _ _ c a cs (.exit i) h rfl (Evol.refl c) hF)
  | ret => intro st k out c a cs h hF Q hQ; exact Runs.ret (hQ _ _ c a cs .ret h trivial (Evol.refl c) hF)
  | region id ops draw => exact region_sound hok hcall
  | seq x y ihx ihy =>
    intro st k out c a cs h hF Q hQ
    simp only [codeD] at h
    refine Runs.seq (ihx h hF _ fun e st' c' a' cs' e' hk hX hE hF' => ?_)
    cases e with
    | normal =>
      cases e' <;> simp [ExR] at hX
      exact ihy hk hF' Q fun e st'' c'' a'' cs'' e'' hk' hX' hE' hF'' => hQ e st'' c'' a'' cs'' e'' hk' hX' (hE.trans hE') hF''
    | exit i =>
      cases e' <;> simp [ExR] at hX
      subst hX
      exact hQ _ _ c' a' cs' _ hk rfl hE hF'
    | ret =>
      cases e' <;> simp [ExR] at hX
      exact hQ _ _ c' a' cs' _ hk trivial hE hF'
    | pan v =>
      cases e' <;> simp only [ExR] at hX
      obtain ⟨x', rfl, hv⟩ := hX
      exact hQ _ _ c' a' cs' _ hk ⟨x', rfl, hv⟩ hE hF'
  | cond cnd x y ihx ihy =>
    intro st k out c a cs h hF Q hQ
    simp only [codeD] at h
    split at h
    · rename_i b eb
      have hv := evalG_sound (js := []) hF.slots.toG (fun p hp => by cases hp) cnd
      have hu : evalG st.T [] cnd = .bool b := by simp [evalG, eb, under]
      rw [hu] at hv
      have hev := hv.bool_inv
      cases b with
      | true => exact Runs.cond hev (ihx h hF Q hQ)
      | false => exact Runs.cond hev (ihy h hF Q hQ)
    · cases h
  | block i x ih =>
    intro st k out c a cs h hF Q hQ
    simp only [codeD] at h
    refine Runs.block (ih h hF _ fun e st' c' a' cs' e' hk hX hE hF' => ?_)
    cases e with
    | normal =>
      cases e' <;> simp [ExR] at hX
      exact hQ _ _ c' a' cs' _ hk trivial hE hF'
    | exit j =>
      cases e' <;> simp [ExR] at hX
      subst hX
      simp only at hk ⊢
      cases hj : j == i with
      | true =>
        rw [hj] at hk
        rw [beq_iff_eq] at hj
        rw [if_pos hj]
        exact hQ _ _ c' a' cs' _ hk trivial hE hF'
      | false =>
        rw [hj] at hk
        have hj : ¬ j = i := by simpa using hj
        rw [if_neg hj]
        exact hQ _ _ c' a' cs' _ hk rfl hE hF'
    | ret =>
      cases e' <;> simp [ExR] at hX
      exact hQ _ _ c' a' cs' _ hk trivial hE hF'
    | pan v =>
      cases e' <;> simp only [ExR] at hX
      obtain ⟨x', rfl, hv⟩ := hX
      exact hQ _ _ c' a' cs' _ hk ⟨x', rfl, hv⟩ hE hF'
  | loop x ih =>
    intro st k out c a cs h hF Q hQ
    simp only [codeD] at h
    obtain ⟨c₁, hw, hE, hF₁⟩ := promote_sound (pol.prom fn (regOf x)) hF
    rw [← hw]
    refine Runs.loop1 (loop_sound ih fuel h (c₀ := c₁) ?_ ?_ (Evol.refl c₁) hF₁ Q fun e st' c' a' cs' e' hk hX hE' hF' => hQ e st' c' a' cs' e' hk hX (hE.trans hE') hF')
    · rw [hF₁.fr.h]; exact Nat.le_refl _
    · rw [hF₁.fr.h]; exact Nat.le_refl _
  | scope x ih =>
    intro st k out c a cs h hF Q hQ
    simp only [codeD] at h
    refine Runs.scope (ih h hF _ fun e st' c' a' cs' e' hk hX hE hF' => ?_)
    cases e' with
    | goto l => cases e <;> exact hX.elim
    | _ => exact hQ _ _ c' a' cs' _ hk hX hE hF'
  | _ => intro st k out c a cs h; simp only [codeD] at h; cases h

end
end Go.Den
