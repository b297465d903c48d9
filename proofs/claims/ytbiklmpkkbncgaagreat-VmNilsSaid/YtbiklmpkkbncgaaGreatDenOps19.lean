/- The theorem: what the second reading says of a call is so. -/
import Derived.Test.YtbiklmpkkbncgaaGreatDenOps18
set_option linter.unusedSimpArgs false
set_option linter.unusedVariables false
set_option linter.unnecessarySimpa false
namespace Go.Den
open Go

section
variable {P : Program} {call : CallO}

/-- how a frame leaves -/
def Way (c : Cx) : Option AV → FrameMode → Prop
  | none, u => u = .returning
  | some v, u => ∃ x, u = .panicking [{ v := x, recovered := false }] ∧ VR c v x

theorem mode_way {c : Cx} {ps : PS} {u : FrameMode} (h : ModeR c ps u) : Way c ps.back (settle u) := by
  cases ps with
  | plain => exact h.elim
  | over => simp only [ModeR] at h; subst h; rfl
  | pan v => obtain ⟨x, rfl, hv⟩ := h; exact ⟨x, rfl, hv⟩
  | met => obtain ⟨x, rfl⟩ := h; rfl

theorem way_mode {c : Cx} {pan : Option AV} {u : FrameMode} (h : Way c pan u) : ModeR c (psOf pan) u ∧ u ≠ .run := by
  cases pan with
  | none => simp only [Way] at h; subst h; exact ⟨rfl, by simp⟩
  | some v => obtain ⟨x, rfl, hv⟩ := h; exact ⟨⟨x, rfl, hv⟩, by simp⟩

theorem Leaves.mono {fn : Func} {tm : Array Value} {R R' : Ending → World → Prop} (hR : ∀ e w, R e w → R' e w) : ∀ (ds : List Deferred) {u : FrameMode} {w : World}, Leaves P fn tm R ds u w → Leaves P fn tm R' ds u w := by
  intro ds
  induction ds with
  | nil =>
    intro u w h
    cases u with
    | run => exact h.elim
    | returning => obtain ⟨v, h1, h2⟩ := h; exact ⟨v, h1, hR _ _ h2⟩
    | panicking ch => exact hR _ _ h
  | cons d ds ih =>
    intro u w h
    obtain ⟨h1, fv, cap, f, args, h2, h3, h4⟩ := h
    refine ⟨h1, fv, cap, f, args, h2, h3, ?_⟩
    intro cc cs hu
    obtain ⟨e, u', w', fr, q, r⟩ := h4 cc cs hu
    refine ⟨e, u', w', fr, ?_, r⟩
    cases e with
    | returned x => exact ih q
    | panicked ch => exact ih q
    | outgrown => exact hR _ _ q

theorem run_invoke (hok : Okay P) {g : FuncId} {arr : Array Value} {fn : Func} {w : World} (hfn : P.funcs[g]? = some fn) (hb : fn.body.isSome = true) :
    (invoke (.fn (.func g) arr) #[]).run P w = .ok (.enter g arr) w := by
  have h1 : fn.body ≠ none := by cases hfb : fn.body <;> simp [hfb] at hb ⊢
  have h2 : ¬ fn.name = "runtime.NumGoroutine" := by simpa using hok.names g fn hfn
  simp [invoke, callFunc, hfn, h2, h1]

theorem leaveD_sound (hok : Okay P) (hcall : CallSound P call) {fn : Func} : ∀ (ds : List AV) {st : St} {pan : Option AV} {out : Out} {c : Cx} {defs : List Deferred} {tm : Array Value} {u : FrameMode},
    leaveD P (bindK call) fn ds st pan = some out → RelH c → c.h = st.s.h → SlotsR c st.T tm → DsR c ds defs → Way c pan u →
    Leaves P fn tm (fun e w' => ∃ c', c'.w = w' ∧ Evol c c' ∧ RelH c' ∧ OutR c' out e) defs u c.w := by
  intro ds
  induction ds with
  | nil =>
    intro st pan out c defs tm u h hr hh hS hd hw
    cases defs with
    | cons => exact hd.elim
    | nil =>
      cases pan with
      | none =>
        simp only [Way] at hw
        subst hw
        simp only [leaveD] at h
        split at h
        · rename_i v ev
          cases h
          obtain ⟨x, h1, h2⟩ := resultsD_sound hr hh hS ev
          exact ⟨x, h1, c, rfl, Evol.refl c, hr, hh, h2⟩
        · cases h
      | some v =>
        obtain ⟨x, rfl, hv⟩ := hw
        simp only [leaveD] at h
        cases h
        exact ⟨c, rfl, Evol.refl c, hr, hh, x, rfl, hv⟩
  | cons d ds ih =>
    intro st pan out c defs tm u h hr hh hS hd hw
    cases defs with
    | nil => exact hd.elim
    | cons df defs =>
      obtain ⟨⟨g, cap, arr, rfl, rfl, hv⟩, hd⟩ := hd
      simp only [leaveD, bindK] at h
      cases ecall : call g cap st.s.h (psOf pan) with
      | none => rw [ecall] at h; cases h
      | some o =>
      rw [ecall] at h
      cases o with
      | pan => cases h
      | ret x h' ps' =>
        simp only at h
        obtain ⟨⟨gf, hgf, hgb⟩, hsound⟩ := hcall _ _ _ _ _ ecall
        have hargs : ArgsR c cap arr := by cases hv with | fn _ _ _ hs hv => exact ⟨hs, hv⟩
        obtain ⟨hm, hu⟩ := way_mode hw
        have hcd := (hsound c arr hr hh hargs).2 u _ _ _ hm rfl
        refine ⟨hu, .func g, arr, g, arr, rfl, run_invoke hok hgf hgb, ?_⟩
        intro cc cs hcu
        obtain ⟨e, u', w', fr, ⟨c', rfl, hE, hR, hh', hm', x', rfl⟩, r⟩ := hcd cc cs hcu
        refine ⟨_, u', _, fr, ?_, r⟩
        have := ih (c := c') (u := settle u') h hR hh' (hS.ext hE.ext) (hd.ext hE.ext) (mode_way hm')
        exact Leaves.mono (fun e w ⟨c'', h1, h2, h3, h4⟩ => ⟨c'', h1, hE.trans h2, h3, h4⟩) _ this

theorem start_sound {fn : Func} {args : List AV} {xs : Array Value} {c : Cx} (h : ArgsR c args xs) : SlotsR c (startT P fn args) (xs ++ Array.replicate (fn.ntmps - xs.size) undef) := by
  obtain ⟨hs, hv⟩ := h
  refine ⟨by simp [startT, hs], fun j u x e1 e2 => ?_⟩
  by_cases hj : j < args.length
  · have hj' : j < xs.size := by omega
    rw [Array.getElem?_append_left hj'] at e2
    simp only [startT] at e1
    rw [List.getElem?_append_left (by simpa using hj)] at e1
    simp only [List.getElem?_map, List.getElem?_range hj, Option.map_some, Option.some.injEq] at e1
    have ea : args[j]? = some args[j] := List.getElem?_eq_getElem hj
    have hV := hv j _ x ea e2
    rw [ea] at e1
    cases hp : fn.params[j]? with
    | some t => rw [hp] at e1; simp only at e1; subst e1; exact hV.coerce
    | none => rw [hp] at e1; simp only at e1; subst e1; exact hV
  · rw [Array.getElem?_append_right (by omega)] at e2
    simp only [startT] at e1
    rw [List.getElem?_append_right (by simpa using hj)] at e1
    have hu : u = undefA := by
      have := List.mem_of_getElem? e1
      exact List.eq_of_mem_replicate this
    have hx : x = undef := by
      rw [Array.getElem?_replicate] at e2
      split at e2
      · cases e2; rfl
      · cases e2
    subst hu; subst hx
    exact .undef

theorem bodyD_sound (hok : Okay P) (hcall : CallSound P call) (pol : Pol) (fuel : Nat) : CallSound P (fun f args h ps => bodyD P pol (bindK call) fuel f args h ps) := by
  intro f args h ps out hb
  simp only [bodyD] at hb
  split at hb
  · rename_i fn hfn
    split at hb
    · rename_i x hx
      refine ⟨⟨fn, hfn, by simp [hx]⟩, fun c xs hr hh hargs => ⟨?_, ?_⟩⟩
      · rintro rfl
        refine calls_of_runs hfn hx fun cs => ?_
        have hF : FrS (.plain cs) c ⟨startT P fn args, ⟨h, [], .plain⟩⟩ { tmps := xs ++ Array.replicate (fn.ntmps - xs.size) undef, defers := [] } cs :=
          ⟨⟨hr, hh, trivial, rfl⟩, start_sound hargs⟩
        refine codeD_sound (base := .plain cs) hok hcall x hb hF _ fun e st' c' a' cs' e' hk hX hE hF' => ?_
        have hcs : cs' = cs := by
          have := hF'.fr.ps
          generalize st'.s.ps = q at this
          cases q <;> first | exact this | exact this.elim
        have key : ∀ {pan : Option AV} {u : FrameMode}, shut (pol.full f) (pol.hold f) h.length (leaveD P (bindK call) fn st'.s.ds st' pan) = some out → Way c' pan u →
            Leaves P fn a'.tmps (fun e w' => ∃ c', c'.w = w' ∧ Evol c c' ∧ RelH c' ∧ OutR c' out e) a'.defers u c'.w := by
          intro pan u hk hw
          cases hl : leaveD P (bindK call) fn st'.s.ds st' pan with
          | none => rw [hl] at hk; cases hk
          | some out₀ =>
            rw [hl] at hk
            refine Leaves.mono ?_ _ (leaveD_sound hok hcall st'.s.ds hl hF'.fr.rel hF'.fr.h hF'.slots hF'.fr.ds hw)
            rintro e w ⟨c'', rfl, h2, h3, h4⟩
            rw [← hh] at hk
            exact shut_sound (hE.trans h2) h3 h4 hk
        refine ⟨hcs, ?_⟩
        cases e with
        | normal =>
          cases e' <;> simp only [ExR] at hX
          exact key hk rfl
        | ret =>
          cases e' <;> simp only [ExR] at hX
          exact key hk rfl
        | exit i => simp only at hk; cases hk
        | pan v =>
          cases e' <;> simp only [ExR] at hX
          obtain ⟨x', rfl, hv⟩ := hX
          exact key hk ⟨x', rfl, hv⟩
      · intro u v h' ps' hm hout
        subst hout
        refine callsD_of_runs hfn hx fun c₀ cs hu => ?_
        have hF : FrS (.deferred c₀ cs) c ⟨startT P fn args, ⟨h, [], ps⟩⟩ { tmps := xs ++ Array.replicate (fn.ntmps - xs.size) undef, defers := [] } (c₀ :: cs) :=
          ⟨⟨hr, hh, trivial, psr_deferred.2 ⟨u, hm, by rw [← hu]⟩⟩, start_sound hargs⟩
        have hps : ps ≠ .plain := by rintro rfl; exact hm
        refine codeD_sound (base := .deferred c₀ cs) hok hcall x hb hF _ fun e st' c' a' cs' e' hk hX hE hF' => ?_
        obtain ⟨u', hm', hcs'⟩ := psr_deferred.1 hF'.fr.ps
        have key : st'.s.ds = [] → shut (pol.full f) (pol.hold f) h.length (leaveD P (bindK call) fn [] st' none) = some (.ret v h' ps') →
            a'.defers = [] ∧ ∃ u', cs' = { c₀ with mode := u' } :: cs ∧ ∃ x, (results fn a'.tmps).run P c'.w = .ok x c'.w ∧
              ∃ c'', c''.w = c'.w ∧ Evol c c'' ∧ RelH c'' ∧ c''.h = h' ∧ ModeR c'' ps' u' ∧ ∃ y, Ending.returned x = .returned y := by
          intro hds hk
          have hdf : a'.defers = [] := by
            have := hF'.fr.ds
            rw [hds] at this
            generalize a'.defers = q at this
            cases q with
            | nil => rfl
            | cons => exact this.elim
          simp only [leaveD] at hk
          split at hk
          · rename_i v₀ ev
            obtain ⟨y, h1, h2⟩ := resultsD_sound hF'.fr.rel hF'.fr.h hF'.slots ev
            have hl := hE.len
            simp only [shut] at hk
            cases hf : (pol.full f && (pol.hold f || leadsIn v₀)) with
            | true =>
              rw [hf] at hk
              cases hk
              exact ⟨hdf, u', hcs', y, h1, c', rfl, hE, hF'.fr.rel, hF'.fr.h, hm', y, rfl⟩
            | false =>
              rw [hf] at hk
              cases hk
              rw [← hh]
              refine ⟨hdf, u', hcs', y, h1, c'.cut c.h.length, rfl, cut_evol hE (Nat.le_refl _) hl, cut_rel hF'.fr.rel hl, ?_, cut_mode hl hm', y, rfl⟩
              simp only [Cx.cut, hF'.fr.h]
          · simp only [shut] at hk; cases hk
        cases e with
        | normal =>
          cases e' <;> simp only [ExR] at hX
          cases ps <;> first | exact absurd rfl hps | (generalize hds : st'.s.ds = ds at hk key; cases ds <;> first | exact key rfl hk | cases hk)
        | ret =>
          cases e' <;> simp only [ExR] at hX
          cases ps <;> first | exact absurd rfl hps | (generalize hds : st'.s.ds = ds at hk key; cases ds <;> first | exact key rfl hk | cases hk)
        | exit i => cases ps <;> cases st'.s.ds <;> cases hk
        | pan v => cases ps <;> first | exact absurd rfl hps | (cases hds : st'.s.ds <;> rw [hds] at hk <;> cases hk)
    · cases hb
  · cases hb

end
end Go.Den
