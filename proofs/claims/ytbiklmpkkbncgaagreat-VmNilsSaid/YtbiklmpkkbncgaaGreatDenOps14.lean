/- Slots, guards. -/
import Derived.Test.YtbiklmpkkbncgaaGreatDenOps13
set_option linter.unusedSimpArgs false
set_option linter.unusedVariables false
set_option linter.unnecessarySimpa false
namespace Go.Den
open Go

def Hold (tm : Array Value) (js : Js) : Prop := ∀ p ∈ js, tm[p.1]? = some (.bool p.2)

def TR (c : Cx) (tm : Array Value) (u : AV) (x : Value) : Prop :=
  match u with
  | .gd js v => (Hold tm js → VR c v x) ∧ (¬ Hold tm js → x = undef)
  | u => VR c u x

/-- slots, within a region -/
structure SlotsG (c : Cx) (T : List AV) (tm : Array Value) : Prop where
  size : tm.size = T.length
  at' : ∀ (j : Nat) (u : AV) (x : Value), T[j]? = some u → tm[j]? = some x → TR c tm u x

/-- slots, between regions -/
structure SlotsR (c : Cx) (T : List AV) (tm : Array Value) : Prop where
  size : tm.size = T.length
  at' : ∀ (j : Nat) (u : AV) (x : Value), T[j]? = some u → tm[j]? = some x → VR c u x

section
variable {P : Program} {c c' : Cx} {T : List AV} {tm : Array Value}

theorem VR.not_gd {js : Js} {v : AV} {x : Value} : ¬ VR c (.gd js v) x := fun h => by cases h

theorem TR.of_vr {u : AV} {x : Value} (h : VR c u x) : TR c tm u x := by
  cases u with
  | gd js v => exact absurd h VR.not_gd
  | _ => exact h

theorem TR.ext (hx : Ext c c') {u : AV} {x : Value} (h : TR c tm u x) : TR c' tm u x := by
  cases u with
  | gd js v => exact ⟨fun hh => (h.1 hh).ext hx, h.2⟩
  | _ => exact VR.ext hx h

theorem SlotsR.ext (hx : Ext c c') (h : SlotsR c T tm) : SlotsR c' T tm := ⟨h.size, fun j u x e1 e2 => (h.at' j u x e1 e2).ext hx⟩
theorem SlotsG.ext (hx : Ext c c') (h : SlotsG c T tm) : SlotsG c' T tm := ⟨h.size, fun j u x e1 e2 => (h.at' j u x e1 e2).ext hx⟩
theorem SlotsR.toG (h : SlotsR c T tm) : SlotsG c T tm := ⟨h.size, fun j u x e1 e2 => .of_vr (h.at' j u x e1 e2)⟩

theorem VR.undef : VR c undefA undef := .tup [] #[] rfl fun j u v e => by simp at e

theorem VR.undef_inv {x : Value} (h : VR c undefA x) : x = Go.undef := by
  cases h with
  | tup _ arr hs _ =>
    have : arr = #[] := Array.size_eq_zero_iff.1 hs
    subst this; rfl

/-- what a slot holds -/
theorem SlotsG.get (h : SlotsG c T tm) (t : Nat) : TR c tm (getT T t) (tm.getD t undef) := by
  unfold getT
  by_cases ht : t < T.length
  · rw [List.getElem?_eq_getElem ht]
    have ht' : t < tm.size := by rw [h.size]; exact ht
    have := h.at' t T[t] tm[t] (List.getElem?_eq_getElem ht) (Array.getElem?_eq_getElem ht')
    simpa [Array.getD_eq_getD_getElem?, ht'] using this
  · rw [List.getElem?_eq_none (by omega)]
    have ht' : ¬ t < tm.size := by rw [h.size]; exact ht
    simp only [Option.getD_none, Array.getD_eq_getD_getElem?, Array.getElem?_eq_none (by omega : tm.size ≤ t)]
    exact .of_vr .undef

theorem SlotsG.slot (h : SlotsG c T tm) {d : Nat} {u : AV} (hu : getT T d = u) (hne : u ≠ undefA) : ∃ x, tm[d]? = some x ∧ TR c tm u x := by
  have ht : d < T.length := by
    rcases Nat.lt_or_ge d T.length with h | h
    · exact h
    · simp [getT, List.getElem?_eq_none h] at hu; exact absurd hu.symm hne
  have ht' : d < tm.size := by rw [h.size]; exact ht
  refine ⟨tm[d], Array.getElem?_eq_getElem ht', ?_⟩
  have := h.get d
  rw [hu] at this
  simpa [Array.getD_eq_getD_getElem?, ht'] using this

theorem SlotsG.boolSlot (h : SlotsG c T tm) {d : Nat} {b : Bool} (hu : getT T d = .bool b) : tm[d]? = some (.bool b) := by
  obtain ⟨x, e, hx⟩ := h.slot hu (by simp [undefA])
  rw [e, VR.bool_inv hx]

theorem subJ_sound {js js' : Js} (h : subJ js js' = true) (hh : Hold tm js) : Hold tm js' := by
  intro p hp
  unfold subJ at h
  have := List.all_eq_true.1 h p hp
  obtain ⟨q, hq, e⟩ := List.any_eq_true.1 this
  simp only [Bool.and_eq_true, beq_iff_eq] at e
  obtain ⟨q1, q2⟩ := q
  obtain ⟨p1, p2⟩ := p
  simp only at e
  obtain ⟨rfl, rfl⟩ := e
  exact hh _ hq

theorem evalG_sound {a : Act} (h : SlotsG c T a.tmps) {js : Js} (hh : Hold a.tmps js) (x : Operand) : VR c (evalG T js x) (a.eval x) := by
  cases x with
  | tmp t =>
    have := h.get t
    simp only [evalG, eval, Act.eval]
    generalize getT T t = u at this
    cases u with
    | gd js' v =>
      simp only [under]
      cases hs : subJ js js' with
      | true => exact this.1 (subJ_sound hs hh)
      | false => exact .top _
    | _ => exact this
  | const v =>
    have := VR.const (c := c) v
    simp only [evalG, eval, Act.eval]
    generalize ofConst v = u at this
    cases u with
    | gd js' v => exact absurd this VR.not_gd
    | _ => exact this
  | «global» g => exact .top _
  | func f => exact .fn f [] #[] rfl fun j u v e => by simp at e

theorem guard_run {ops : Array Oper} {o : Oper} {js : Js} (h : SlotsG c T tm) (hg : guardOf ops T o = .run js) : Region.wanted o (yielded ops tm) = true ↔ Hold tm js := by
  unfold guardOf at hg
  unfold Region.wanted
  split at hg
  · rename_i e
    cases hg
    simp [e, Hold]
  · rename_i j want e
    simp only [e]
    split at hg
    · rename_i d ed
      split at hg
      · rename_i b eb
        cases hg
        simp [yielded, ed, h.boolSlot eb, Hold]
      · rename_i js' b eb
        cases hg
        obtain ⟨x, ex, hx⟩ := h.slot eb (by simp [undefA])
        simp only [yielded, ed, Option.bind_some, ex]
        by_cases hh : Hold tm js'
        · have := (hx.1 hh).bool_inv
          subst this
          simp only [Hold, List.mem_append, List.mem_singleton, beq_iff_eq, Option.some.injEq]
          constructor
          · rintro rfl p (hp | rfl)
            · exact hh p hp
            · exact ex
          · intro hp
            have := hp (d, want) (.inr rfl)
            rw [ex] at this
            cases this; rfl
        · have := hx.2 hh
          subst this
          constructor
          · intro hc; simp [undef] at hc
          · intro hc; exact absurd (fun p hp => hc p (List.mem_append_left _ hp)) hh
      · cases hg
      · cases hg
    · cases hg

theorem guard_skip {ops : Array Oper} {o : Oper} (h : SlotsG c T tm) (hg : guardOf ops T o = .skip) : Region.wanted o (yielded ops tm) = false := by
  unfold guardOf at hg
  unfold Region.wanted
  split at hg
  · cases hg
  · rename_i j want e
    simp only [e]
    split at hg
    · rename_i d ed
      split at hg
      · cases hg
      · cases hg
      · rename_i eb
        have := h.get d
        rw [eb] at this
        have := VR.undef_inv this
        have hy : yielded ops tm j = none := by
          simp only [yielded, ed, Option.bind_some]
          rw [Array.getD_eq_getD_getElem?] at this
          cases hx : tm[d]? with
          | none => rfl
          | some x => rw [hx] at this; simp at this; subst this; rfl
        simp [hy]
      · cases hg
    · cases hg

theorem holdsJ_sound (h : SlotsG c T tm) : ∀ {js acc : Js} {b : Bool}, holdsJ T acc js = some b → Hold tm acc → (b = true ↔ Hold tm js) := by
  intro js
  induction js with
  | nil => intro acc b e _; cases e; simp [Hold]
  | cons p js ih =>
    intro acc b e hacc
    obtain ⟨d, w⟩ := p
    have key : ∀ {cc : Bool}, tm[d]? = some (.bool cc) → (match holdsJ T ((d, w) :: acc) js with
        | some r => some ((cc == w) && r)
        | none => none) = some b → (b = true ↔ Hold tm ((d, w) :: js)) := by
      intro cc hd e
      cases hr : holdsJ T ((d, w) :: acc) js with
      | none => rw [hr] at e; cases e
      | some r =>
        rw [hr] at e
        cases e
        simp only [Bool.and_eq_true, beq_iff_eq]
        constructor
        · rintro ⟨rfl, rfl⟩
          have := (ih hr (fun p hp => (List.mem_cons.1 hp).elim (fun e => e ▸ hd) (hacc p))).1 rfl
          intro p hp
          exact (List.mem_cons.1 hp).elim (fun e => e ▸ hd) (this p)
        · intro hh
          have h1 := hh (d, w) (List.mem_cons_self ..)
          rw [hd] at h1
          cases h1
          exact ⟨rfl, (ih hr (fun p hp => (List.mem_cons.1 hp).elim (fun e => e ▸ hd) (hacc p))).2 fun p hp => hh p (List.mem_cons_of_mem _ hp)⟩
    unfold holdsJ at e
    split at e
    · rename_i cc ec
      exact key (h.boolSlot ec) e
    · rename_i js' cc ec
      cases hs : subJ acc js' with
      | false => rw [hs] at e; cases e
      | true =>
        rw [hs] at e
        obtain ⟨x, ex, hx⟩ := h.slot ec (by simp [undefA])
        have := (hx.1 (subJ_sound hs hacc)).bool_inv
        subst this
        exact key ex e
    · cases e

theorem gdOf_sound {js : Js} {v : AV} {x : Value} (h1 : Hold tm js → VR c v x) (h2 : ¬ Hold tm js → x = undef) : TR c tm (gdOf js v) x := by
  cases js with
  | nil => exact .of_vr (h1 fun p hp => by cases hp)
  | cons p js => exact ⟨h1, h2⟩

theorem resolve_sound (h : SlotsG c T tm) {d : Nat} {w : Bool} (hd : tm[d]? = some (.bool w)) : SlotsG c (resolve T d w) tm := by
  refine ⟨by simp [resolve, h.size], fun j u x e1 e2 => ?_⟩
  simp only [resolve] at e1
  by_cases hj : d = j
  · subst hj
    have hlt : d < T.length := by rw [← h.size]; exact (Array.getElem?_eq_some_iff.1 hd).1
    rw [List.getElem?_set_self (by simpa using hlt)] at e1
    cases e1
    rw [hd] at e2
    cases e2
    exact .bool w
  · rw [List.getElem?_set_ne hj, List.getElem?_map, Option.map_eq_some_iff] at e1
    obtain ⟨u', e1, rfl⟩ := e1
    have := h.at' j u' x e1 e2
    cases u' with
    | gd js v =>
      simp only [resolve1]
      cases hany : (js.any fun p => p.1 == d && p.2 != w) with
      | true =>
        simp only [cond_true]
        obtain ⟨p, hp, hpe⟩ := List.any_eq_true.1 hany
        simp only [Bool.and_eq_true, beq_iff_eq, bne_iff_ne] at hpe
        have := this.2 fun hh => by
          have := hh p hp
          rw [hpe.1, hd] at this
          cases this
          exact hpe.2 rfl
        subst this
        exact .of_vr .undef
      | false =>
        simp only [cond_false]
        have hiff : Hold tm (js.filter fun p => !(p.1 == d)) ↔ Hold tm js := by
          constructor
          · intro hh p hp
            by_cases hpd : p.1 = d
            · have : p.2 = w := by
                have := List.any_eq_false.1 hany p hp
                simpa [hpd] using this
              rw [hpd, this]; exact hd
            · exact hh p (List.mem_filter.2 ⟨hp, by simp [hpd]⟩)
          · intro hh p hp
            exact hh p (List.mem_filter.1 hp).1
        exact gdOf_sound (fun hh => by
          have hv := this.1 (hiff.1 hh)
          cases v <;> first | exact hv | exact absurd hv VR.not_gd) (fun hh => this.2 fun hh' => hh (hiff.2 hh'))
    | _ => exact this

/-- gd's slots after 'resolve' were there before -/
theorem resolve_gd {d : Nat} {w : Bool} {j : Nat} {js : Js} {v : AV} (h : (resolve T d w)[j]? = some (.gd js v)) : ∃ js₀ v₀, T[j]? = some (.gd js₀ v₀) ∧ ∀ p ∈ js, p ∈ js₀ := by
  simp only [resolve] at h
  by_cases hj : d = j
  · subst hj
    rw [List.getElem?_set] at h
    split at h
    · split at h <;> cases h
    · rename_i hne; exact absurd rfl hne
  · rw [List.getElem?_set_ne hj, List.getElem?_map, Option.map_eq_some_iff] at h
    obtain ⟨u', e1, e2⟩ := h
    cases u' with
    | gd js₀ v₀ =>
      simp only [resolve1] at e2
      cases hany : (js₀.any fun p => p.1 == d && p.2 != w) with
      | true => rw [hany] at e2; cases e2
      | false =>
        rw [hany] at e2
        simp only [cond_false] at e2
        generalize hf : (js₀.filter fun p => !(p.1 == d)) = fl at e2
        cases fl with
        | nil =>
          simp only [gdOf] at e2
          cases v₀ <;> simp [ungd] at e2
        | cons p l =>
          simp only [gdOf] at e2
          cases e2
          refine ⟨js₀, v₀, e1, fun q hq => ?_⟩
          rw [← hf] at hq
          exact (List.mem_filter.1 hq).1
    | _ => simp [resolve1] at e2

end
end Go.Den
