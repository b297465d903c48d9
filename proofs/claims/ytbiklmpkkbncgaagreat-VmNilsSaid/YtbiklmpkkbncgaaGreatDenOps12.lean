/- Calls; deferred calls; panics; 'recover'. -/
import Derived.Test.YtbiklmpkkbncgaaGreatDenOps11
import Derived.Test.YtbiklmpkkbncgaaGreatDenTr
set_option linter.unusedSimpArgs false
set_option linter.unusedVariables false
set_option linter.unnecessarySimpa false
namespace Go.Den
open Go

inductive Base where
  | plain (cs : List Frame)
  | deferred (c₀ : Frame) (rest : List Frame)

def Base.kind : Base → CallKind
  | .plain _ => .normal
  | .deferred .. => .deferred

def ModeR (c : Cx) : PS → FrameMode → Prop
  | .plain, _ => False
  | .over, u => u = .returning
  | .pan v, u => ∃ x, u = .panicking [{ v := x, recovered := false }] ∧ VR c v x
  | .met, u => ∃ x, u = .panicking [{ v := x, recovered := true }]

def PSR (c : Cx) : Base → PS → List Frame → Prop
  | .plain cs₀, .plain, cs => cs = cs₀
  | .deferred c₀ rest, ps, cs => ∃ u, ModeR c ps u ∧ cs = { c₀ with mode := u } :: rest
  | _, _, _ => False

def DefR (c : Cx) (v : AV) (d : Deferred) : Prop :=
  ∃ g cap arr, v = .fn g cap ∧ d = { target := .fn (.func g) arr, args := #[] } ∧ VR c (.fn g cap) (.func (.func g) #[] arr)

def DsR (c : Cx) : List AV → List Deferred → Prop
  | [], [] => True
  | v :: vs, d :: ds => DefR c v d ∧ DsR c vs ds
  | _, _ => False

structure Fr (base : Base) (c : Cx) (s : Hs) (ds : List Deferred) (cs : List Frame) : Prop where
  rel : RelH c
  h : c.h = s.h
  ds : DsR c s.ds ds
  ps : PSR c base s.ps cs

def ArgsR (c : Cx) (args : List AV) (xs : Array Value) : Prop :=
  xs.size = args.length ∧ ∀ (j : Nat) (u : AV) (v : Value), args[j]? = some u → xs[j]? = some v → VR c u v

def OutR (c : Cx) : Out → Ending → Prop
  | .ret v h _, .returned x => c.h = h ∧ VR c v x
  | .pan v h _, .panicked chain => c.h = h ∧ ∃ x, chain = [{ v := x, recovered := false }] ∧ VR c v x
  | _, _ => False

/-- What a reading of calls says is so. -/
def CallSound (P : Program) (call : CallO) : Prop :=
  ∀ f args h ps out, call f args h ps = some out → (∃ fn, P.funcs[f]? = some fn ∧ fn.body.isSome = true) ∧
    ∀ (c : Cx) (xs : Array Value), RelH c → c.h = h → ArgsR c args xs →
      (ps = .plain → Calls P f xs c.w fun e w' => ∃ c', c'.w = w' ∧ Evol c c' ∧ RelH c' ∧ OutR c' out e) ∧
      ∀ u v h' ps', ModeR c ps u → out = .ret v h' ps' → CallsD P f xs u c.w fun e u' w' => ∃ c', c'.w = w' ∧ Evol c c' ∧ RelH c' ∧ c'.h = h' ∧ ModeR c' ps' u' ∧ ∃ x, e = .returned x

structure Okay (P : Program) : Prop where
  names : ∀ (f : FuncId) fn, P.funcs[f]? = some fn → (fn.name == "runtime.NumGoroutine") = false
  mixed : P.follows .mixedOrders = true

theorem ModeR.ext {c c' : Cx} (hx : Ext c c') {ps : PS} {u : FrameMode} (h : ModeR c ps u) : ModeR c' ps u := by
  cases ps with
  | plain => exact h
  | over => exact h
  | pan v => obtain ⟨x, e, hv⟩ := h; exact ⟨x, e, hv.ext hx⟩
  | met => exact h

theorem PSR.ext {c c' : Cx} (hx : Ext c c') {base : Base} {ps : PS} {cs : List Frame} (h : PSR c base ps cs) : PSR c' base ps cs := by
  cases base with
  | plain cs₀ => cases ps <;> exact h
  | deferred c₀ rest =>
    have h' : ∃ u, ModeR c ps u ∧ cs = { c₀ with mode := u } :: rest := by cases ps <;> exact h
    obtain ⟨u, h1, h2⟩ := h'
    have : ∃ u, ModeR c' ps u ∧ cs = { c₀ with mode := u } :: rest := ⟨u, h1.ext hx, h2⟩
    cases ps <;> exact this

theorem DsR.ext {c c' : Cx} (hx : Ext c c') : ∀ {vs : List AV} {ds : List Deferred}, DsR c vs ds → DsR c' vs ds
  | [], [], _ => trivial
  | v :: vs, d :: ds, h => by
    obtain ⟨⟨g, cap, arr, e1, e2, e3⟩, h2⟩ := h
    exact ⟨⟨g, cap, arr, e1, e2, e3.ext hx⟩, DsR.ext hx h2⟩
  | [], _ :: _, h => h.elim
  | _ :: _, [], h => h.elim

theorem Fr.step {base : Base} {c c' : Cx} {s s' : Hs} {ds : List Deferred} {cs : List Frame} (h : Fr base c s ds cs) (st : Step c c' s s') : Fr base c' s' ds cs :=
  ⟨st.rel, st.h, by rw [st.ds]; exact h.ds.ext st.ev.ext, by rw [st.ps]; exact h.ps.ext st.ev.ext⟩

section
variable {P : Program} {c : Cx} {s : Hs} {a : Act}

theorem purify_to {c' : Cx} (hx : ∀ b off, c.stable b off → ∀ v, c.w.cell? ⟨b, off, none⟩ = some v → c'.stable b off ∧ c'.w.cell? ⟨b, off, none⟩ = some v)
    {u : AV} {x : Value} (h : VR c u x) : VR c' (purify u) x := by
  by_cases ha : AtomA u
  · obtain ⟨h1, h2, _⟩ := purify_sound h ha
    exact h1.pure hx h2
  · cases u <;> simp only [AtomA, not_true_eq_false] at ha <;> exact .top x

theorem freezeC_nil (d : Nat) (u : AV) : freezeC 0 [] d u = purify u := by
  cases d with
  | zero => cases u <;> rfl
  | succ d => cases u <;> simp [freezeC, purify]

theorem agg_purify {c' : Cx} (hx : ∀ b off, c.stable b off → ∀ v, c.w.cell? ⟨b, off, none⟩ = some v → c'.stable b off ∧ c'.w.cell? ⟨b, off, none⟩ = some v)
    {cs : List AV} {x : Value} (h : VR c (.agg cs) x) : VR c' (.agg (cs.map purify)) x := by
  cases h with
  | agg _ arr hs ha hv =>
    refine .agg _ _ (by simp [hs]) (fun u hu => ?_) fun j u v e1 e2 => ?_
    · obtain ⟨u', hu', rfl⟩ := List.mem_map.1 hu
      obtain ⟨j, hj, rfl⟩ := List.getElem_of_mem hu'
      have hj' : j < arr.size := by omega
      exact (purify_sound (hv j _ (arr[j]) (List.getElem?_eq_getElem hj) (by simp [hj'])) (ha _ (List.getElem_mem hj))).2.2
    · rw [List.getElem?_map, Option.map_eq_some_iff] at e1
      obtain ⟨u', e1, rfl⟩ := e1
      exact purify_to hx (hv j u' v e1 e2)

theorem loose_sound {u : AV} {x : Value} (h : VR c u x) : VR c (loose u) x := by
  cases h with
  | sl z t n f a cap val h1 h2 h3 h4 h5 h6 h7 h8 h9 =>
    have hno : VR c (.sl z .no n f) (.slice a n cap) := .sl z .no n f a cap val h1 (fun e => by cases e) h3 h4 h5 h6 h7 h8 fun i e => by cases e
    cases t with
    | no => exact hno
    | id i => exact hno
    | tight => cases n with
      | zero => exact .sl z .tight 0 f a cap val h1 h2 h3 h4 h5 h6 h7 h8 h9
      | succ n => exact hno
  | top x => exact .top x
  | dk x h => exact .dk x h
  | int k n => exact .int k n
  | bool b => exact .bool b
  | str l s h => exact .str l s h
  | flt b => exact .flt b
  | nil => exact .nil
  | ptr i gen row off x hi ha h => exact .ptr i gen row off x hi ha h
  | pp row off b o val hp hc hv => exact .pp row off b o val hp hc hv
  | nils => exact .nils
  | sr i gen off len a cap hi hl hn h hz => exact .sr i gen off len a cap hi hl hn h hz
  | fn f cap arr hs hv => exact .fn f cap arr hs hv
  | nilfn => exact .nilfn
  | ifc t v x hv => exact .ifc t v x hv
  | nilifc => exact .nilifc
  | agg cs arr hs ha hv => exact .agg cs arr hs ha hv
  | tup vs arr hs hv => exact .tup vs arr hs hv
  | map i x hi ha h => exact .map i x hi ha h
  | nilmap => exact .nilmap

theorem loose_atom {u : AV} (h : AtomA u) : AtomA (loose u) := by
  cases u
  case sl z t n f => cases t <;> first | trivial | (cases n <;> trivial)
  all_goals exact h

theorem agg_loose {cs : List AV} {x : Value} (h : VR c (.agg cs) x) : VR c (.agg (cs.map loose)) x := by
  cases h with
  | agg _ arr hs ha hv =>
    refine .agg _ _ (by simp [hs]) (fun u hu => ?_) fun j u v e1 e2 => ?_
    · obtain ⟨u', hu', rfl⟩ := List.mem_map.1 hu
      exact loose_atom (ha u' hu')
    · rw [List.getElem?_map, Option.map_eq_some_iff] at e1
      obtain ⟨u', e1, rfl⟩ := e1
      exact loose_sound (hv j u' v e1 e2)

theorem exportA_sound {c' : Cx} (hx : ∀ b off, c.stable b off → ∀ v, c.w.cell? ⟨b, off, none⟩ = some v → c'.stable b off ∧ c'.w.cell? ⟨b, off, none⟩ = some v)
    {u u' : AV} {x : Value} (h : VR c u x) (he : exportA u = some u') : VR c' u' x := by
  cases u
  case agg cs =>
    simp only [exportA] at he
    generalize (cs.any _) = bb at he
    cases bb with
    | true => cases he
    | false => simp only [cond_false, Option.some.injEq] at he; subst he; exact agg_purify hx h
  case ptr => cases he
  case sr => cases he
  case map => cases he
  case tup => cases he
  case fn f cap =>
    cases cap with
    | nil => simp only [exportA, Option.some.injEq] at he; subst he; exact purify_to hx h
    | cons => cases he
  all_goals (simp only [exportA, Option.some.injEq] at he; subst he; exact purify_to hx h)

theorem freeze_nil_sound {c' : Cx} (hx : ∀ b off, c.stable b off → ∀ v, c.w.cell? ⟨b, off, none⟩ = some v → c'.stable b off ∧ c'.w.cell? ⟨b, off, none⟩ = some v)
    {u : AV} {x : Value} (h : VR c u x) : VR c' (freeze 0 [] u) x := by
  have hm : ∀ cs : List AV, cs.map (freezeC 0 [] 4) = cs.map purify := fun cs => List.map_congr_left fun u _ => freezeC_nil 4 u
  cases u
  case agg cs => simp only [freeze, frzA, hm]; exact agg_loose (agg_purify hx h)
  case tup vs =>
    simp only [freeze]
    cases h with
    | tup _ arr hs hv =>
      refine .tup _ _ (by simp [hs]) fun j u v e1 e2 => ?_
      rw [List.getElem?_map, Option.map_eq_some_iff] at e1
      obtain ⟨u', e1, rfl⟩ := e1
      have := hv j u' v e1 e2
      split
      · simp only [frzA]; rw [hm]; exact agg_loose (agg_purify hx this)
      · rw [freezeC_nil]; exact purify_to hx this
  all_goals (simp only [freeze, freezeC_nil]; exact purify_to hx h)

def IsoR (c : Cx) : Out → Ending → Prop
  | .ret v _ _, e => ∃ x, e = .returned x ∧ VR c (freeze 0 [] v) x
  | .pan v _ _, e => ∃ x, e = .panicked [{ v := x, recovered := false }] ∧ VR c (purify v) x

/-- a call that sees nothing of the heap of objects -/
theorem call_isolated {call : CallO} (hcall : CallSound P call) (hr : RelH c) {g : FuncId} {args args' : List AV} {xs : Array Value} {out : Out} (hargs : ArgsR c args xs) (he : args.mapM exportA = some args')
    (h : call g args' [] .plain = some out) : Calls P g xs c.w fun e w' => ∃ c', c'.w = w' ∧ c'.h = c.h ∧ Evol c c' ∧ RelH c' ∧ IsoR c' out e := by
  let c₀ : Cx := { Fr := fun b o => c.Fr b o ∨ c.own b o, h := [], g := [], w := c.w }
  have hown₀ : ∀ b off, ¬ c₀.own b off := fun b off ⟨i, o, gh, h1, _, _⟩ => by simp [c₀] at h1
  have hr₀ : RelH c₀ := ⟨rfl, fun i o gh h1 => by simp [c₀] at h1, fun i j o gh o' gh' b off off' _ h1 => by simp [c₀] at h1, fun b off h => absurd h (hown₀ b off),
    fun b off h => h.elim (hr.bd b off) hr.own_lt⟩
  have hx₀ : ∀ b off, c.stable b off → ∀ v, c.w.cell? ⟨b, off, none⟩ = some v → c₀.stable b off ∧ c₀.w.cell? ⟨b, off, none⟩ = some v :=
    fun b off hs v hv => ⟨⟨fun h => h.elim hs.1 hs.2, hown₀ b off⟩, hv⟩
  obtain ⟨hl, hme⟩ := forall_mapM he
  have hargs' : ArgsR c₀ args' xs := by
    refine ⟨by rw [hargs.1, hl], fun j u v e1 e2 => ?_⟩
    have hj : j < args.length := by rw [← hl]; exact (List.getElem?_eq_some_iff.1 e1).1
    exact exportA_sound hx₀ (hargs.2 j _ v (List.getElem?_eq_getElem hj) e2) (hme j _ u (List.getElem?_eq_getElem hj) e1)
  obtain ⟨_, hs⟩ := hcall g args' [] .plain out h
  refine Calls.mono ((hs c₀ xs hr₀ rfl hargs').1 rfl) ?_
  rintro e w' ⟨c', rfl, hE, hR, hO⟩
  obtain ⟨hE', hR'⟩ := evol_world hr hE.os hE.tape hE.output hE.size fun b hb => hE.block b hb fun off => hown₀ b off
  refine ⟨{ c with w := c'.w }, rfl, rfl, hE', hR', ?_⟩
  have hx' : ∀ b off, c'.stable b off → ∀ v, c'.w.cell? ⟨b, off, none⟩ = some v → ({ c with w := c'.w } : Cx).stable b off ∧ ({ c with w := c'.w } : Cx).w.cell? ⟨b, off, none⟩ = some v := by
    intro b off hs v hv
    have hf := hs.1
    rw [hE.fr] at hf
    exact ⟨⟨fun h => hf (.inl h), fun h => hf (.inr h)⟩, hv⟩
  cases out with
  | ret v h ps =>
    cases e with
    | returned x => exact ⟨x, rfl, freeze_nil_sound hx' hO.2⟩
    | panicked => exact hO.elim
    | outgrown => exact hO.elim
  | pan v h ps =>
    cases e with
    | returned x => exact hO.elim
    | panicked chain => obtain ⟨_, x, rfl, hv⟩ := hO; exact ⟨x, rfl, purify_to hx' hv⟩
    | outgrown => exact hO.elim

end
end Go.Den
