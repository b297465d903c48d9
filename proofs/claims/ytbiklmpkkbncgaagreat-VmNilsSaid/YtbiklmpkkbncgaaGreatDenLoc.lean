/- What an operation of an open order looks at, and what it turns. -/
import Derived.Test.YtbiklmpkkbncgaaGreatDenFix
set_option linter.unusedSimpArgs false
set_option linter.unusedVariables false
set_option linter.unnecessarySimpa false
namespace Go.Den
open Go

theorem map_kind {o o' : Den.Obj} (h : mapO o = true) (h' : mapO o' = true) : kindO o = kindO o' := by
  cases o <;> first | (exfalso; exact Bool.false_ne_true h) | skip
  cases o' <;> first | (exfalso; exact Bool.false_ne_true h') | rfl

def kindAt (h : List Den.Obj) (m : Nat) : Option (Nat × Nat × Nat) := (h[m]?).map kindO

/-! surely the same -/
theorem zip_eq {eq : AV → AV → Bool} (he : ∀ a b, eq a b = true → a = b) : ∀ {l m : List AV}, l.length = m.length → (l.zip m).all (fun p => eq p.1 p.2) = true → l = m
  | [], [], _, _ => rfl
  | a :: l, b :: m, hl, h => by
    simp only [List.zip_cons_cons, List.all_cons, Bool.and_eq_true] at h
    rw [he a b h.1, zip_eq he (by simpa using hl) h.2]
  | [], _ :: _, hl, _ => by simp at hl
  | _ :: _, [], hl, _ => by simp at hl
theorem sameRows_eq {eq : AV → AV → Bool} (he : ∀ a b, eq a b = true → a = b) : ∀ {l m : List (List AV)}, sameRows eq l m = true → l = m
  | [], [], _ => rfl
  | a :: l, b :: m, h => by
    simp only [sameRows, Bool.and_eq_true, beq_iff_eq] at h
    rw [zip_eq he h.1.1 h.1.2, sameRows_eq he h.2]
  | [], _ :: _, h => by cases h
  | _ :: _, [], h => by cases h
theorem ofFn_eq {n n' : Nat} {f : Fin n → List AV} {f' : Fin n' → List AV} (h : List.ofFn f = List.ofFn f') : n = n' ∧ HEq f f' := by
  have hl : n = n' := by simpa using congrArg List.length h
  subst hl
  refine ⟨rfl, heq_of_eq (funext fun i => ?_)⟩
  have := congrArg (fun l => l[i.1]?) h
  simpa using this
theorem sameTok_eq {t t' : Tok} (h : sameTok t t' = true) : t = t' := by
  cases t <;> cases t' <;> simp [sameTok] at h ⊢
  exact h
theorem sameA_eq : ∀ (d : Nat) (a b : AV), sameA d a b = true → a = b
  | 0, _, _, h => by cases h
  | d + 1, a, b, h => by
    have ih := sameA_eq d
    unfold sameA at h
    split at h
    case h_17 =>
      simp only [Bool.and_eq_true, beq_iff_eq] at h
      obtain ⟨⟨rfl, ht⟩, hr⟩ := h
      obtain ⟨rfl, hf⟩ := ofFn_eq (sameRows_eq ih hr)
      rw [sameTok_eq ht, eq_of_heq hf]
    all_goals first
      | rfl
      | cases h
      | (simp only [Bool.and_eq_true, beq_iff_eq, decide_eq_true_eq] at h
         first
           | (obtain ⟨rfl, rfl⟩ := h; rfl)
           | (obtain ⟨⟨⟨rfl, rfl⟩, rfl⟩, rfl⟩ := h; rfl)
           | (obtain ⟨rfl, h⟩ := h; rw [ih _ _ h])
           | (obtain ⟨rfl, h⟩ := h; have := sameRows_eq ih h; simp at this; rw [this])
           | (subst h; rfl))
theorem sameOb_eq {o o' : Den.Obj} (h : sameOb o o' = true) : o = o' := by
  unfold sameOb at h
  split at h
  · have := sameRows_eq (sameA_eq 6) h
    simp at this
    rw [this]
  · simp only [Bool.and_eq_true, beq_iff_eq] at h
    obtain ⟨⟨rfl, rfl⟩, hr⟩ := h
    obtain ⟨rfl, hf⟩ := ofFn_eq (sameRows_eq (sameA_eq 6) hr)
    rw [eq_of_heq hf]
  · rw [beq_iff_eq] at h
    rw [h]
  · cases h
theorem kindEq_eq {o o' : Den.Obj} (h : kindEq o o' = true) : kindO o = kindO o' := by
  unfold kindEq at h
  simp only [Bool.and_eq_true, beq_iff_eq] at h
  exact Prod.ext h.1.1 (Prod.ext h.1.2 h.2)
theorem kept_spec {p : Fp} {M : List (Nat × Bool)} {h h' : List Den.Obj} (hb : p.bar = some M) (hk : keptB p h h' = true) :
    (∀ m, inFull M m = true → h'[m]? = h[m]?) ∧ ∀ m, inKd M m = true → kindAt h' m = kindAt h m := by
  unfold keptB at hk
  rw [hb] at hk
  have at' : ∀ q ∈ M, ∃ o o', h[q.1]? = some o ∧ h'[q.1]? = some o' ∧ (q.2 = true → o = o') ∧ kindO o = kindO o' := by
    intro q hq
    have := List.all_eq_true.1 hk q hq
    split at this
    · rename_i o o' e1 e2
      refine ⟨o, o', e1, e2, fun ht => ?_, ?_⟩
      · rw [ht] at this; exact sameOb_eq this
      · cases hq2 : q.2 with
        | true => rw [hq2] at this; rw [sameOb_eq this]
        | false => rw [hq2] at this; exact kindEq_eq this
    · cases this
  refine ⟨fun m hm => ?_, fun m hm => ?_⟩
  · obtain ⟨q, hq, hp⟩ := List.any_eq_true.1 hm
    simp only [Bool.and_eq_true, beq_iff_eq] at hp
    obtain ⟨rfl, ht⟩ := hp
    obtain ⟨o, o', e1, e2, h3, _⟩ := at' q hq
    rw [e1, e2, h3 ht]
  · obtain ⟨q, hq, hp⟩ := List.any_eq_true.1 hm
    rw [beq_iff_eq] at hp
    subst hp
    obtain ⟨o, o', e1, e2, _, h4⟩ := at' q hq
    simp only [kindAt, e1, e2, Option.map_some, h4]

/-- two heaps are alike where an operation looks -/
structure Agr (h h' : List Den.Obj) (p : Fp) : Prop where
  full : ∀ m ∈ p.full ++ (p.f.ws ++ nwL p.f), h[m]? = h'[m]?
  kind : ∀ m ∈ p.f.rs, kindAt h m = kindAt h' m
  bar : p.bar.isSome = true → h = h'

/-- what an operation turns, at two heaps -/
inductive Tch (p : Fp) (h h' h₂ h₂' : List Den.Obj) : Prop
  | same : h' = h → h₂' = h₂ → Tch p h h' h₂ h₂'
  | put (n : Nat) (o₀ o : Den.Obj) : n ∈ p.f.ws ++ nwL p.f → h[n]? = some o₀ → h₂[n]? = some o₀ → (n ∈ nwL p.f ∨ kindO o₀ = kindO o) → h' = h.set n o → h₂' = h₂.set n o → Tch p h h' h₂ h₂'
  | bar (M : List (Nat × Bool)) : p.bar = some M → h₂ = h → h₂' = h' → (∀ m, inFull M m = true → h'[m]? = h[m]?) → (∀ m, inKd M m = true → kindAt h' m = kindAt h m) → Tch p h h' h₂ h₂'

section
variable {P : Program} {h h' : List Den.Obj}

theorem standing_agr {v : AV} (hk : ∀ m ∈ ids v, kindAt h m = kindAt h' m) : standing h v = standing h' v := by
  cases v
  case ptr i gen row off =>
    have := hk i (List.mem_singleton.2 rfl)
    simp only [standing, kindAt] at this ⊢
    rcases e : h[i]? with _ | o <;> rcases e' : h'[i]? with _ | o' <;> rw [e, e'] at this
    · simp at this
    · simp at this
    · cases o <;> cases o' <;> simp [kindO] at this ⊢
      rw [this.2]
  all_goals rfl

theorem eqTop_agr {t : TypeId} {x y : AV} {b : Bool} (h1 : standing h x = standing h' x) (h2 : standing h y = standing h' y) : eqTop P h t x y b = eqTop P h' t x y b := by
  unfold eqTop
  split
  · split
    · rfl
    · rw [h2]
    · rw [h1]
    · rfl
  all_goals rfl

theorem binD_agr {op : BinOp} {t : TypeId} {x y : AV} {b : Bool} (h1 : standing h x = standing h' x) (h2 : standing h y = standing h' y) : binD P h op t x y b = binD P h' op t x y b := by
  unfold binD
  split
  · rfl
  · rfl
  · rw [eqTop_agr h1 h2]

theorem loadP_agr {a : AV} {z : Nat} (hk : ∀ m ∈ ids a, h[m]? = h'[m]?) : loadP h a z = loadP h' a z := by
  cases a
  case ptr i gen row off => simp only [loadP]; rw [hk i (List.mem_singleton.2 rfl)]
  all_goals rfl

theorem loadD_agr {a : AV} {z : Nat} (hk : ∀ m ∈ ids a, h[m]? = h'[m]?) : loadD h a z = loadD h' a z := by
  cases a
  case ptr i gen row off => simp only [loadD]; rw [hk i (List.mem_singleton.2 rfl)]
  all_goals rfl

theorem rowsOf_agr {raw : Bool} {el : TypeId} {v : AV} (hk : ∀ m ∈ ids v, h[m]? = h'[m]?) : rowsOf P raw el h v = rowsOf P raw el h' v := by
  cases v
  case sr i gen off len => simp only [rowsOf]; rw [hk i (List.mem_singleton.2 rfl)]
  all_goals rfl

theorem ids_coerce {t : TypeId} {v : AV} {m : Nat} (hm : m ∈ ids (coerce P t v)) : m ∈ ids v := by
  cases v
  case nils =>
    simp only [coerce] at hm
    split at hm <;> exact hm
  all_goals exact hm

theorem mem_rs {hid : List (Nat × Bool)} {pol : Pol} {fn : FuncId} {i n : Nat} {e : Operand → AV} {o : Oper} {x : Operand} {m : Nat} (hx : x ∈ o.op.operands) (hm : m ∈ ids (e x)) : m ∈ (fpOf P pol fn i n hid e o).f.rs := by
  simp only [fpOf, footOf]
  exact List.mem_flatMap.2 ⟨x, by simpa using hx, hm⟩

theorem Agr.stands {hid : List (Nat × Bool)} {pol : Pol} {fn : FuncId} {i n : Nat} {e : Operand → AV} {o : Oper} (hA : Agr h h' (fpOf P pol fn i n hid e o)) {x : Operand} (hx : x ∈ o.op.operands) : standing h (e x) = standing h' (e x) :=
  standing_agr fun m hm => hA.kind m (mem_rs hx hm)

theorem opPure_agr {hid : List (Nat × Bool)} {pol : Pol} {fn : FuncId} {i n : Nat} {e et ef : Operand → AV} {o : Oper} (hA : Agr h h' (fpOf P pol fn i n hid e o)) : opPure P e et ef h o = opPure P e et ef h' o := by
  obtain ⟨dst, op, ty, pos, after, guard⟩ := o
  cases op
  case load t a =>
    simp only [opPure]
    rw [loadP_agr fun m hm => hA.full m (List.mem_append_left _ (by
      simp only [fpOf, rsOf]
      exact mem_rs (hid := hid) (x := a) (by simp [Op.operands]) hm))]
  case nilCheck x =>
    have := hA.stands (x := x) (by simp [Op.operands])
    simp only [opPure]
    split
    · rfl
    · rfl
    · rw [this]
  case binOp op t x y rt =>
    simp only [opPure]
    exact binD_agr (hA.stands (by simp [Op.operands])) (hA.stands (by simp [Op.operands]))
  case fieldAddr t x j =>
    have := hA.stands (x := x) (by simp [Op.operands])
    simp only [opPure]
    split
    · rename_i ex
      rw [← ex, this, ex]
    · rfl
    · rfl
  case call cl =>
    obtain ⟨callee, args, argTypes⟩ := cl
    cases callee with
    | builtin b => cases b <;> rfl
    | _ => rfl
  case makeFunc f first cap => cases f <;> rfl
  all_goals rfl

theorem pureG_agr {hid : List (Nat × Bool)} {pol : Pol} {fn : FuncId} {T : List AV} {js : Js} {i n : Nat} {o : Oper} (hA : Agr h h' (fpOf P pol fn i n hid (evalG T js) o)) : pureG P T js h o = pureG P T js h' o := by
  unfold pureG
  rw [opPure_agr hA]

theorem arr_agr {m z g n : Nat} {f : Fin n → List AV} (hk : kindAt h m = kindAt h' m) (e : h[m]? = some (.arr z g n f)) : ∃ n' f', h'[m]? = some (.arr z g n' f') := by
  unfold kindAt at hk
  rw [e] at hk
  rcases e' : h'[m]? with _ | o' <;> rw [e'] at hk
  · simp at hk
  · cases o' <;> simp [kindO] at hk
    obtain ⟨rfl, rfl⟩ := hk
    exact ⟨_, _, rfl⟩

theorem newD_some {n : Nat} {o : Den.Obj} {k : Nat → List Den.Obj → R} {out : Out} (e : newD (some n) h o k = some out) : h[n]? = some .unborn ∧ k n (h.set n o) = some out := by
  unfold newD at e
  simp only at e
  split at e
  · rename_i hu; exact ⟨hu, e⟩
  · cases e

theorem newD_at {n : Nat} {o : Den.Obj} {k : Nat → List Den.Obj → R} (e : h[n]? = some .unborn) : newD (some n) h o k = k n (h.set n o) := by
  unfold newD
  simp only [e]

theorem storeD_loc {a : AV} {vs : List AV} {hh : List Den.Obj} (e : storeD h a vs = some hh) :
    ∃ n o₀ o, n ∈ ids a ∧ h[n]? = some o₀ ∧ kindO o₀ = kindO o ∧ hh = h.set n o ∧ ∀ h₂ : List Den.Obj, h₂[n]? = some o₀ → storeD h₂ a vs = some (h₂.set n o) := by
  cases a
  case ptr i gen row off =>
    simp only [storeD] at e
    split at e
    · rename_i cs ei
      cases hc : (gen == 0 && row == 0 && decide (off + vs.length ≤ cs.length)) with
      | false => rw [hc] at e; cases e
      | true =>
        rw [hc] at e
        cases e
        exact ⟨i, _, .var (setRow cs off vs), List.mem_singleton.2 rfl, ei, rfl, rfl, fun h₂ e2 => by simp only [storeD, e2, hc, cond_true]⟩
    · rename_i z gen' n f ei
      cases hc : (gen == gen' && decide (row < n) && decide (off + vs.length ≤ z)) with
      | false => rw [hc] at e; cases e
      | true =>
        rw [hc] at e
        cases e
        exact ⟨i, _, .arr z gen' n fun j => if j.1 = row then setRow (f j) off vs else f j, List.mem_singleton.2 rfl, ei, rfl, rfl, fun h₂ e2 => by
          simp only [storeD, e2, hc, cond_true]⟩
    · cases e
  all_goals cases e

def hless (P : Program) (pol : Pol) (fn : FuncId) (o : Oper) : Bool :=
  match o.op with
  | .pick .. | .binOp .. | .index .. | .typeAssert .. | .panic _ => true
  | .buildSlice .. => !pol.grow fn (o.dst.getD 0)
  | _ => false

theorem opD_hless {pol : Pol} {call : CallK} {fn : FuncId} {n : Nat} {e : Operand → AV} {o : Oper} (hl : hless P pol fn o = true) (s : Hs) (k kp : AV → Hs → R) :
    opD P pol call fn (some n) e o s k kp = opD P pol call fn (some n) e o ⟨[], [], .plain⟩ (fun v _ => k v s) (fun v _ => kp v s) := by
  obtain ⟨dst, op, ty, pos, after, guard⟩ := o
  cases op
  case buildSlice t len parts =>
    have hg : pol.grow fn (dst.getD 0) = false := by simpa [hless] using hl
    simp only [opD, hg, cond_false]
  all_goals first | rfl | cases hl

open Classical in
noncomputable def tst (v : AV) (s : Hs) : AV → Hs → R := fun v' x => if v' = v ∧ x = s then some (.ret .nil [] .plain) else none

theorem tst_self {v : AV} {s : Hs} : tst v s v s = some (.ret .nil [] .plain) := by simp [tst]
theorem tst_inv {v v' : AV} {s x : Hs} {out : Out} (h : tst v s v' x = some out) : v' = v ∧ x = s := by
  unfold tst at h
  split at h
  · assumption
  · cases h

theorem nw_mem {hid : List (Nat × Bool)} {pol : Pol} {fn : FuncId} {i n : Nat} {e : Operand → AV} {o : Oper} (hm : mkO P pol fn o = true) : n ∈ nwL (fpOf P pol fn i n hid e o).f := by
  simp [fpOf, footOf, nwL, hm]

theorem op_local {hid : List (Nat × Bool)} {pol : Pol} {call : CallO} {fn : FuncId} {i n : Nat} {e : Operand → AV} {o : Oper} {s s₂ s' : Hs} {v : AV} (hA : Agr s.h s₂.h (fpOf P pol fn i n hid e o))
    (hdet : ∀ k kp, opD P pol (bindK call) fn (some n) e o s k kp = k v s') (hkeep : keptB (fpOf P pol fn i n hid e o) s.h s'.h = true) :
    ∃ h₂', s' = { s with h := s'.h } ∧ (∀ k kp, opD P pol (bindK call) fn (some n) e o s₂ k kp = k v { s₂ with h := h₂' }) ∧ Tch (fpOf P pol fn i n hid e o) s.h s'.h s₂.h h₂' := by
  cases hl : hless P pol fn o with
  | true =>
    have hs : s' = s := by
      classical
      have a := hdet (fun _ x => if x = s then none else some (.ret .nil [] .plain)) (fun _ _ => none)
      have b := hdet (fun _ _ => none) (fun _ _ => none)
      rw [opD_hless hl] at a b
      simp only [if_true] at a
      rw [b] at a
      by_cases hx : s' = s
      · exact hx
      · rw [if_neg hx] at a; cases a
    subst hs
    refine ⟨s₂.h, rfl, fun k kp => ?_, .same rfl rfl⟩
    have := hdet (fun v _ => k v s₂) (fun v _ => kp v s₂)
    rw [opD_hless hl] at this
    rw [opD_hless hl]
    exact this
  | false =>
    have hd : opD P pol (bindK call) fn (some n) e o s (tst v s') (fun _ _ => none) = some (.ret .nil [] .plain) := by rw [hdet]; exact tst_self
    clear hdet
    have hN : mkO P pol fn o = true → s₂.h[n]? = s.h[n]? := fun hm => (hA.full n (List.mem_append_right _ (List.mem_append_right _ (nw_mem hm)))).symm
    obtain ⟨dst, op, ty, pos, after, guard⟩ := o
    cases op
    case alloc t =>
      simp only [opD] at hd
      split at hd
      · rename_i cs ez
        obtain ⟨hu, hd⟩ := newD_some hd
        obtain ⟨rfl, rfl⟩ := tst_inv hd
        have hu2 := (hN rfl).trans hu
        exact ⟨s₂.h.set n (.var cs), rfl, fun k kp => by simp only [opD, ez]; rw [newD_at hu2], .put n .unborn (.var cs) (List.mem_append_right _ (nw_mem rfl)) hu hu2 (.inl (nw_mem rfl)) rfl rfl⟩
      · cases hd
    case box t x =>
      simp only [opD] at hd
      split at hd
      · rename_i cs ez
        obtain ⟨hu, hd⟩ := newD_some hd
        obtain ⟨rfl, rfl⟩ := tst_inv hd
        have hu2 := (hN rfl).trans hu
        exact ⟨s₂.h.set n (.var cs), rfl, fun k kp => by simp only [opD, ez]; rw [newD_at hu2], .put n .unborn (.var cs) (List.mem_append_right _ (nw_mem rfl)) hu hu2 (.inl (nw_mem rfl)) rfl rfl⟩
      · cases hd
    case makeSlice t l cp =>
      simp only [opD] at hd
      split at hd
      · rename_i el m e1 e2
        split at hd
        · rename_i z ez
          cases hb : (sameO l cp && decide (0 ≤ m) && roomy m.toNat (P.bytesOf el)) with
          | false => rw [hb] at hd; cases hd
          | true =>
            rw [hb] at hd
            simp only [cond_true] at hd
            obtain ⟨hu, hd⟩ := newD_some hd
            obtain ⟨rfl, rfl⟩ := tst_inv hd
            have hu2 := (hN rfl).trans hu
            exact ⟨s₂.h.set n (.arr (P.cellsOf el) 0 m.toNat fun _ => z), rfl, fun k kp => by simp only [opD, e1, e2, ez, hb, cond_true]; rw [newD_at hu2],
              .put n .unborn _ (List.mem_append_right _ (nw_mem rfl)) hu hu2 (.inl (nw_mem rfl)) rfl rfl⟩
        · cases hd
      · cases hd
    case buildSlice t len parts =>
      have hgr : pol.grow fn (dst.getD 0) = true := by simpa [hless] using hl
      have hmk : mkO P pol fn ⟨dst, .buildSlice t len parts, ty, pos, after, guard⟩ = true := hgr
      simp only [opD] at hd
      split at hd
      · rename_i el eel
        split at hd
        · rename_i z ps ez ep
          cases hall : (ps.all (fun p => decide (p.1 < len)) && decide (len * P.cellsOf el ≤ 16777216)) with
          | false => rw [hall] at hd; cases hd
          | true =>
            rw [hall, hgr] at hd
            simp only [cond_true] at hd
            obtain ⟨hu, hd⟩ := newD_some hd
            obtain ⟨rfl, rfl⟩ := tst_inv hd
            have hu2 := (hN hmk).trans hu
            exact ⟨s₂.h.set n (.arr (P.cellsOf el) 0 len fun j => rowIn z j.1 ps), rfl, fun k kp => by simp only [opD, eel, ez, ep, hall, hgr, cond_true]; rw [newD_at hu2],
              .put n .unborn _ (List.mem_append_right _ (nw_mem hmk)) hu hu2 (.inl (nw_mem hmk)) rfl rfl⟩
        · cases hd
      · cases hd
    case store t ad x =>
      simp only [opD] at hd
      split at hd
      · rename_i cs ecs
        · obtain ⟨hh, est, hd⟩ := storeK_eq hd
          obtain ⟨rfl, rfl⟩ := tst_inv hd
          obtain ⟨m, o₀, o, hm, h1, h2, h3, h4⟩ := storeD_loc est
          have hw : m ∈ (fpOf P pol fn i n hid e ⟨dst, .store t ad x, ty, pos, after, guard⟩).f.ws ++ nwL (fpOf P pol fn i n hid e ⟨dst, .store t ad x, ty, pos, after, guard⟩).f := List.mem_append_left _ hm
          have e2 : s₂.h[m]? = some o₀ := (hA.full m (List.mem_append_right _ hw)).symm.trans h1
          exact ⟨s₂.h.set m o, rfl, fun k kp => by simp only [opD, ecs]; rw [storeK_of (h4 _ e2)], .put m o₀ o hw h1 e2 (.inr h2) h3 rfl⟩
      · cases hd
    case load t ad =>
      simp only [opD] at hd
      obtain ⟨q, gen, row, off, o, u, ea, hi, h1, h2⟩ := loadK_det hd
      obtain ⟨rfl, rfl⟩ := tst_inv h1
      have e2 : s₂.h[q]? = some o := (hA.full q (List.mem_append_left _ (mem_rs (hid := hid) (P := P) (pol := pol) (fn := fn) (i := i) (n := n) (x := ad) (by simp [Op.operands]) (by rw [ea]; exact List.mem_singleton.2 rfl)))).symm.trans hi
      exact ⟨s₂.h, rfl, fun k kp => by simp only [opD]; rw [h2 _ e2], .same rfl rfl⟩
    case makeMap t r =>
      simp only [opD] at hd
      split at hd
      · rename_i kt el e1
        generalize hb : (keyTy P kt && _) = bb at hd
        cases bb with
        | false => cases hd
        | true =>
          simp only [cond_true] at hd
          obtain ⟨hu, hd⟩ := newD_some hd
          obtain ⟨rfl, rfl⟩ := tst_inv hd
          have hu2 := (hN rfl).trans hu
          exact ⟨s₂.h.set n (.map (isAggD P kt) (kindsOf P 12 kt) 0 fun i => i.elim0), rfl, fun k kp => by simp only [opD, e1, hb, cond_true]; rw [newD_at hu2],
            .put n .unborn _ (List.mem_append_right _ (nw_mem rfl)) hu hu2 (.inl (nw_mem rfl)) rfl rfl⟩
      · cases hd
    case lookup t m x ok =>
      simp only [opD] at hd
      split at hd
      · rename_i kt el e1
        split at hd
        · rename_i z ez
          have hag : ∀ yes no, findD P s.h kt (e m) (e x) yes no = findD P s₂.h kt (e m) (e x) yes no := by
            intro yes no
            unfold findD
            split
            · rfl
            · rename_i q eq
              have : s.h[q]? = s₂.h[q]? := hA.full q (List.mem_append_left _ (mem_rs (hid := hid) (P := P) (pol := pol) (fn := fn) (i := i) (n := n) (x := m) (by simp [Op.operands]) (by rw [eq]; exact List.mem_singleton.2 rfl)))
              rw [this]
            · rfl
          rcases findD_eq hd with ⟨u, h1, h2⟩ | ⟨h1, h2⟩
          · cases ok with
            | true =>
              obtain ⟨rfl, rfl⟩ := tst_inv h1
              exact ⟨s₂.h, rfl, fun k kp => by simp only [opD, e1, ez, ← hag, h2, cond_true], .same rfl rfl⟩
            | false =>
              obtain ⟨rfl, rfl⟩ := tst_inv h1
              exact ⟨s₂.h, rfl, fun k kp => by simp only [opD, e1, ez, ← hag, h2, cond_false], .same rfl rfl⟩
          · cases ok with
            | true =>
              obtain ⟨rfl, rfl⟩ := tst_inv h1
              exact ⟨s₂.h, rfl, fun k kp => by simp only [opD, e1, ez, ← hag, h2, cond_true], .same rfl rfl⟩
            | false =>
              obtain ⟨rfl, rfl⟩ := tst_inv h1
              exact ⟨s₂.h, rfl, fun k kp => by simp only [opD, e1, ez, ← hag, h2, cond_false], .same rfl rfl⟩
        · cases hd
      · cases hd
    case mapUpdate t m x y =>
      simp only [opD] at hd
      split at hd
      · rename_i kt el e1
        obtain ⟨q, o₀, o, hm, hi, m1, m2, h1, h2⟩ := layD_eq hd
        obtain ⟨rfl, rfl⟩ := tst_inv h1
        have hw : q ∈ (fpOf P pol fn i n hid e ⟨dst, .mapUpdate t m x y, ty, pos, after, guard⟩).f.ws ++ nwL (fpOf P pol fn i n hid e ⟨dst, .mapUpdate t m x y, ty, pos, after, guard⟩).f := List.mem_append_left _ (by simp [fpOf, footOf, hm, ids])
        have e2 : s₂.h[q]? = some o₀ := (hA.full q (List.mem_append_right _ hw)).symm.trans hi
        exact ⟨s₂.h.set q o, rfl, fun k kp => by simp only [opD, e1]; rw [h2 _ e2], .put q o₀ o hw hi e2 (.inr (map_kind m1 m2)) rfl rfl⟩
      · cases hd
    case insert t m x y =>
      simp only [opD] at hd
      split at hd
      · rename_i kt el e1
        obtain ⟨q, o₀, o, hm, hi, m1, m2, h1, h2⟩ := layD_eq hd
        obtain ⟨rfl, rfl⟩ := tst_inv h1
        have hw : q ∈ (fpOf P pol fn i n hid e ⟨dst, .insert t m x y, ty, pos, after, guard⟩).f.ws ++ nwL (fpOf P pol fn i n hid e ⟨dst, .insert t m x y, ty, pos, after, guard⟩).f := List.mem_append_left _ (by simp [fpOf, footOf, hm, ids])
        have e2 : s₂.h[q]? = some o₀ := (hA.full q (List.mem_append_right _ hw)).symm.trans hi
        exact ⟨s₂.h.set q o, rfl, fun k kp => by simp only [opD, e1]; rw [h2 _ e2], .put q o₀ o hw hi e2 (.inr (map_kind m1 m2)) rfl rfl⟩
      · cases hd
    case indexAddr t x ix =>
      have hkx : ∀ m ∈ ids (e x), kindAt s.h m = kindAt s₂.h m := fun m hm => hA.kind m (mem_rs (x := x) (by simp [Op.operands]) hm)
      simp only [opD] at hd
      split at hd
      · rename_i el z tk m f j e1 e2 e3
        split at hd
        · rename_i hb
          cases hz : sized P el z with
          | false => rw [hz] at hd; cases hd
          | true =>
            rw [hz] at hd
            have h2 := castCs_det (K := fun row => tst v s' (.pp row 0) s) hd
            have hd := castCs_eq (K := fun row => tst v s' (.pp row 0) s) hd
            obtain ⟨rfl, rfl⟩ := tst_inv hd
            exact ⟨s₂.h, rfl, fun k' kp' => by
              simp only [opD, e1, e2, e3, hz, cond_true]
              rw [dif_pos hb]
              exact h2 fun row => k' (.pp row 0) s₂, .same rfl rfl⟩
        · cases hd
      · rename_i el id gen off len j e1 e2 e3
        split at hd
        · rename_i z gen' m f e4
          obtain ⟨m', f', e5⟩ := arr_agr (hkx id (by rw [e2]; exact List.mem_singleton.2 rfl)) e4
          cases hz : (gen == gen' && sized P el z) with
          | false => rw [hz] at hd; cases hd
          | true =>
            rw [hz] at hd
            cases hb : (decide (0 ≤ j) && decide (j.toNat < len)) with
            | false => rw [hb] at hd; cases hd
            | true =>
              rw [hb] at hd
              obtain ⟨rfl, rfl⟩ := tst_inv hd
              exact ⟨s₂.h, rfl, fun k' kp' => by simp only [opD, e1, e2, e3, e5, hz, hb, cond_true], .same rfl rfl⟩
        · cases hd
      · rename_i m el id gen row q j e1 e2 e3
        have hst := standing_agr hkx
        rw [e2] at hst
        cases hz : (standing s.h (.ptr id gen row q) && sized P el (P.cellsOf el)) with
        | false => rw [hz] at hd; cases hd
        | true =>
          rw [hz] at hd
          rw [hst] at hz
          cases hb : (decide (0 ≤ j) && decide (j.toNat < m)) with
          | false => rw [hb] at hd; cases hd
          | true =>
            rw [hb] at hd
            obtain ⟨rfl, rfl⟩ := tst_inv hd
            exact ⟨s₂.h, rfl, fun k' kp' => by simp only [opD, e1, e2, e3, hz, hb, cond_true], .same rfl rfl⟩
      · rename_i m el row q j e1 e2 e3
        cases hb : (decide (0 ≤ j) && decide (j.toNat < m) && sized P el (P.cellsOf el)) with
        | false => rw [hb] at hd; cases hd
        | true =>
          rw [hb] at hd
          obtain ⟨rfl, rfl⟩ := tst_inv hd
          exact ⟨s₂.h, rfl, fun k' kp' => by simp only [opD, e1, e2, e3, hb, cond_true], .same rfl rfl⟩
      · cases hd
    case slice t x lo hi mx =>
      have hkx : ∀ m ∈ ids (e x), kindAt s.h m = kindAt s₂.h m := fun m hm => hA.kind m (mem_rs (x := x) (by simp [Op.operands]) hm)
      simp only [opD] at hd
      split at hd
      · rename_i b e1 e2
        split at hd
        · rename_i l u e3 e4
          cases hb : (decide (0 ≤ l) && decide (l ≤ u) && decide (u ≤ b.length)) with
          | false => rw [hb] at hd; cases hd
          | true =>
            rw [hb] at hd
            obtain ⟨rfl, rfl⟩ := tst_inv hd
            exact ⟨s₂.h, rfl, fun k' kp' => by simp only [opD, e1, e2, e3, e4, hb, cond_true], .same rfl rfl⟩
        · cases hd
      · rename_i el z tk m f e1 e2
        split at hd
        · rename_i l u w e3 e4 e5
          split at hd
          · rename_i hb
            cases hz : sized P el z with
            | false => rw [hz] at hd; cases hd
            | true =>
              rw [hz] at hd
              simp only [cond_true] at hd
              cases mx with
              | some my =>
                simp only at hd
                cases hmu : (hi.isSome && w == u) with
                | false => rw [hmu] at hd; cases hd
                | true =>
                  rw [hmu] at hd
                  obtain ⟨rfl, rfl⟩ := tst_inv hd
                  exact ⟨s₂.h, rfl, fun k' kp' => by
                    simp only [opD, e1, e2, e3, e4, e5, hz, hmu, cond_true]
                    rw [dif_pos hb], .same rfl rfl⟩
              | none =>
                obtain ⟨rfl, rfl⟩ := tst_inv hd
                exact ⟨s₂.h, rfl, fun k' kp' => by
                  simp only [opD, e1, e2, e3, e4, e5, hz, cond_true]
                  rw [dif_pos hb], .same rfl rfl⟩
          · cases hd
        · cases hd
      · rename_i el id gen off len e1 e2
        split at hd
        · rename_i l u z gen' m f e3 e4 e5
          obtain ⟨m', f', e6⟩ := arr_agr (hkx id (by rw [e2]; exact List.mem_singleton.2 rfl)) e5
          cases hz : (gen == gen' && sized P el z) with
          | false => rw [hz] at hd; cases hd
          | true =>
            rw [hz] at hd
            cases hb : (decide (0 ≤ l) && decide (l ≤ u) && decide (u ≤ len)) with
            | false => rw [hb] at hd; cases hd
            | true =>
              rw [hb] at hd
              obtain ⟨rfl, rfl⟩ := tst_inv hd
              exact ⟨s₂.h, rfl, fun k' kp' => by simp only [opD, e1, e2, e3, e4, e6, hz, hb, cond_true], .same rfl rfl⟩
        · cases hd
      · cases hd
    case call cl =>
      obtain ⟨callee, args, argTypes⟩ := cl
      cases callee with
      | value f =>
        cases ecl : cloneOf P f with
        | none =>
          simp only [opD, bindK, ecl] at hd
          split at hd
          · rename_i g cap ef
            split at hd
            · rename_i gf egf
              cases hbody : gf.body.isNone with
              | true => rw [hbody] at hd; cases hd
              | false =>
                rw [hbody] at hd
                simp only [cond_false] at hd
                split at hd
                · rename_i args' eargs
                  cases hr : call g args' [] .plain with
                  | none => rw [hr] at hd; cases hd
                  | some out' =>
                    rw [hr] at hd
                    cases out' with
                    | ret v' h' ps' =>
                      simp only [onOut] at hd
                      have hdd := castR_det (K := fun v₁ => tst v s' (freeze 0 [] v₁) s) hd
                      obtain ⟨rfl, rfl⟩ := tst_inv (castR_eq (K := fun v₁ => tst v s' (freeze 0 [] v₁) s) hd)
                      exact ⟨s₂.h, rfl, fun k kp => by
                        simp only [opD, bindK, ecl, ef, egf, hbody, cond_false, eargs, hr, onOut]
                        exact hdd fun v => k (freeze 0 [] v) s₂, .same rfl rfl⟩
                    | pan v' h' ps' =>
                      simp only [onOut] at hd
                      cases hd
                · rename_i eargs
                  have hbar : (fpOf P pol fn i n hid e ⟨dst, .call ⟨.value f, args, argTypes⟩, ty, pos, after, guard⟩).bar = some hid := by
                    simp only [fpOf, barOf, ecl, ef, eargs]
                  have hh : s.h = s₂.h := hA.bar (by rw [hbar]; rfl)
                  cases hr : call g (args.toList.map e ++ cap) s.h .plain with
                  | none => rw [hr] at hd; cases hd
                  | some out' =>
                    rw [hr] at hd
                    cases out' with
                    | ret v' h' ps' =>
                      simp only [onOut] at hd
                      have hdd := castR_det (K := fun v₁ => tst v s' v₁ { s with h := h' }) hd
                      obtain ⟨rfl, rfl⟩ := tst_inv (castR_eq (K := fun v₁ => tst v s' v₁ { s with h := h' }) hd)
                      obtain ⟨k1, k2⟩ := kept_spec hbar hkeep
                      exact ⟨h', rfl, fun k kp => by
                        simp only [opD, bindK, ecl, ef, egf, hbody, cond_false, eargs, ← hh, hr, onOut]
                        exact hdd fun v => k v { s₂ with h := h' }, .bar hid hbar hh.symm rfl k1 k2⟩
                    | pan v' h' ps' =>
                      simp only [onOut] at hd
                      cases hd
            · cases hd
          · cases hd
        | some el =>
        have hns : (cloneOf P f).isSome = true := by rw [ecl]; rfl
        simp only [opD, ecl] at hd
        split at hd
        · rename_i x e1
          cases hz : (sized P el (P.cellsOf el) && (zeroT P el).isSome) with
          | false => rw [hz] at hd; cases hd
          | true =>
            rw [hz] at hd
            simp only [cond_true] at hd
            have hargs : args = #[x] := by rw [← e1]
            have hag : rowsOf P false el s.h (e x) = rowsOf P false el s₂.h (e x) := rowsOf_agr fun m hm => hA.full m (List.mem_append_left _ (by
              have := mem_rs (hid := hid) (P := P) (pol := pol) (fn := fn) (i := i) (n := n) (o := ⟨dst, .call ⟨.value f, args, argTypes⟩, ty, pos, after, guard⟩) (e := e) (x := x) (by simp [Op.operands, Call.operands, hargs]) hm
              simp only [fpOf, rsOf, hns, cond_true]
              exact this))
            split at hd
            · rename_i m g e5
              have e6 := hag.symm.trans e5
              have hmk : mkO P pol fn ⟨dst, .call ⟨.value f, args, argTypes⟩, ty, pos, after, guard⟩ = true := hns
              unfold cloneD at hd
              cases hroom : roomy m (P.bytesOf el) with
              | false => rw [hroom] at hd; cases hd
              | true =>
                rw [hroom] at hd
                simp only [cond_true] at hd
                cases hgr : pol.grow fn (dst.getD 0) with
                | false =>
                  rw [hgr] at hd
                  simp only [cond_false] at hd
                  obtain ⟨hu, hd⟩ := newD_some hd
                  obtain ⟨rfl, rfl⟩ := tst_inv hd
                  have hu2 := (hN hmk).trans hu
                  exact ⟨s₂.h.set n (.tok m), rfl, fun k kp => by simp only [opD, ecl, e1, hz, cond_true, e6, cloneD, hroom, hgr, cond_false]; rw [newD_at hu2],
                    .put n .unborn _ (List.mem_append_right _ (nw_mem hmk)) hu hu2 (.inl (nw_mem hmk)) rfl rfl⟩
                | true =>
                  rw [hgr] at hd
                  simp only [cond_true] at hd
                  cases hm0 : m == 0 with
                  | true =>
                    rw [hm0] at hd
                    obtain ⟨rfl, rfl⟩ := tst_inv hd
                    exact ⟨s₂.h, rfl, fun k kp => by simp only [opD, ecl, e1, hz, cond_true, e6, cloneD, hroom, hgr, hm0], .same rfl rfl⟩
                  | false =>
                    rw [hm0] at hd
                    simp only [cond_false] at hd
                    obtain ⟨hu, hd⟩ := newD_some hd
                    obtain ⟨rfl, rfl⟩ := tst_inv hd
                    have hu2 := (hN hmk).trans hu
                    exact ⟨s₂.h.set n (.arr (P.cellsOf el) 0 m g), rfl, fun k kp => by simp only [opD, ecl, e1, hz, cond_true, e6, cloneD, hroom, hgr, hm0, cond_false]; rw [newD_at hu2],
                      .put n .unborn _ (List.mem_append_right _ (nw_mem hmk)) hu hu2 (.inl (nw_mem hmk)) rfl rfl⟩
            · cases hd
        · cases hd
      | invoke r q => simp only [opD] at hd; cases hd
      | builtin b =>
        cases b <;> try (simp only [opD] at hd; cases hd)
        case append =>
          have hkx : ∀ x ∈ args.toList, ∀ m ∈ ids (e x), s.h[m]? = s₂.h[m]? := fun x hx m hm => hA.full m (List.mem_append_left _ (by
            simp only [fpOf, rsOf]
            exact mem_rs (hid := hid) (x := x) (by simpa [Op.operands, Call.operands] using hx) hm))
          have hws : ∀ x, args[0]? = some x → ∀ m ∈ ids (e x), m ∈ (fpOf P pol fn i n hid e ⟨dst, .call ⟨.builtin .append, args, argTypes⟩, ty, pos, after, guard⟩).f.ws := fun x hx m hm => by
            simp only [fpOf, footOf, hx]; exact hm
          simp only [opD] at hd
          split at hd
          · rename_i sx xx ts tx e1 e2
            split at hd
            · rename_i el ex e3 e4
              cases hz : (sized P el (P.cellsOf el) && (zeroT P el).isSome) with
              | false => rw [hz] at hd; cases hd
              | true =>
                rw [hz] at hd
                simp only [cond_true] at hd
                split at hd
                · rename_i m g e5
                  have e5' : rowsOf P (rawT (pol.grow fn (dst.getD 0)) (coerce P ts (e sx))) el s₂.h (e xx) = some ⟨m, g⟩ := by
                    rw [← rowsOf_agr (h := s.h) (h' := s₂.h) (hkx xx (by rw [e1]; simp))]
                    exact e5
                  have h0 : args[0]? = some sx := by rw [← Array.getElem?_toList, e1]; rfl
                  have goal : ∀ {h₂' : List Den.Obj}, (∀ kk : AV → List Den.Obj → R, appendD (some n) s₂.h (pol.grow fn (dst.getD 0)) (P.cellsOf el) (P.bytesOf el) (coerce P ts (e sx)) m g kk = kk v h₂') →
                      ∀ k kp, opD P pol (bindK call) fn (some n) e ⟨dst, .call ⟨.builtin .append, args, argTypes⟩, ty, pos, after, guard⟩ s₂ k kp = k v { s₂ with h := h₂' } := by
                    intro h₂' hh k kp
                    simp only [opD, e1, e2, e3, e4, hz, cond_true, e5']
                    exact hh fun v h => k v { s₂ with h := h }
                  unfold appendD at hd goal
                  split at hd
                  · rename_i z' t q f es
                    simp only [es] at goal
                    cases hc : (z' == P.cellsOf el && roomy (q + m) (P.bytesOf el)) with
                    | false => rw [hc] at hd; cases hd
                    | true =>
                      rw [hc] at hd
                      simp only [hc, cond_true] at hd goal
                      cases t with
                      | no => cases hd
                      | tight =>
                        simp only at hd goal
                        cases hmt : pol.grow fn (dst.getD 0) with
                        | true =>
                          rw [hmt] at hd
                          simp only [hmt, cond_true] at hd goal
                          cases hm : m == 0 with
                          | true =>
                            rw [hm] at hd
                            simp only [hm, cond_true] at hd goal
                            obtain ⟨rfl, rfl⟩ := tst_inv hd
                            exact ⟨s₂.h, rfl, goal fun kk => rfl, .same rfl rfl⟩
                          | false =>
                            rw [hm] at hd
                            simp only [hm, cond_false] at hd goal
                            obtain ⟨hu, hd⟩ := newD_some hd
                            obtain ⟨rfl, rfl⟩ := tst_inv hd
                            have hu2 := (hN rfl).trans hu
                            exact ⟨_, rfl, goal fun kk => newD_at hu2, .put n .unborn _ (List.mem_append_right _ (nw_mem rfl)) hu hu2 (.inl (nw_mem rfl)) rfl rfl⟩
                        | false =>
                          rw [hmt] at hd
                          simp only [hmt, cond_false] at hd goal
                          obtain ⟨hu, hd⟩ := newD_some hd
                          obtain ⟨rfl, rfl⟩ := tst_inv hd
                          have hu2 := (hN rfl).trans hu
                          exact ⟨_, rfl, goal fun kk => newD_at hu2, .put n .unborn _ (List.mem_append_right _ (nw_mem rfl)) hu hu2 (.inl (nw_mem rfl)) rfl rfl⟩
                      | id j =>
                        simp only at hd goal
                        split at hd
                        · rename_i n' hob
                          have hmw := hws sx h0 j (ids_coerce (P := P) (t := ts) (by rw [es]; exact List.mem_singleton.2 rfl))
                          have hob2 : s₂.h[j]? = some (.tok n') := (hA.full j (List.mem_append_right _ (List.mem_append_left _ hmw))).symm.trans hob
                          cases hn : n' == q with
                          | false => rw [hn] at hd; cases hd
                          | true =>
                            rw [hn] at hd
                            simp only [hob2, hn, cond_true] at hd goal
                            obtain ⟨rfl, rfl⟩ := tst_inv hd
                            exact ⟨_, rfl, goal fun kk => rfl, .put j (.tok n') (.tok (q + m)) (List.mem_append_left _ hmw) hob hob2 (.inr rfl) rfl rfl⟩
                        · cases hd
                  · rename_i j gen off len es
                    simp only [es] at goal
                    have esx : e sx = .sr j gen off len := by
                      unfold coerce at es
                      split at es
                      · split at es <;> cases es
                      · exact es
                    split at hd
                    · rename_i z' gen' q f hob
                      have hmw := hws sx h0 j (by rw [esx]; exact List.mem_singleton.2 rfl)
                      have hob2 : s₂.h[j]? = some (.arr z' gen' q f) := (hA.full j (List.mem_append_right _ (List.mem_append_left _ hmw))).symm.trans hob
                      have hks : j ∈ nwL (fpOf P pol fn i n hid e ⟨dst, .call ⟨.builtin .append, args, argTypes⟩, ty, pos, after, guard⟩).f := by
                        simp [nwL, fpOf, footOf, h0, esx]
                      split at hd
                      · rename_i hl
                        cases hc : (z' == P.cellsOf el && gen == gen' && off == 0 && roomy (len + m) (P.bytesOf el)) with
                        | false => rw [hc] at hd; cases hd
                        | true =>
                          rw [hc] at hd
                          simp only [cond_true] at hd
                          obtain ⟨rfl, rfl⟩ := tst_inv hd
                          simp only [hob2, hc, cond_true, dif_pos hl] at goal
                          exact ⟨_, rfl, goal fun kk => rfl, .put j _ _ (List.mem_append_left _ hmw) hob hob2 (.inl hks) rfl rfl⟩
                      · cases hd
                    · cases hd
                  · cases hd
                · cases hd
            · cases hd
          · cases hd
    case defer cl =>
      simp only [opD] at hd
      split at hd
      · split at hd
        · simp at hd
        · cases hd
      · cases hd
    all_goals first | (simp only [opD] at hd; cases hd; done) | (cases hl; done)

end
end Go.Den
