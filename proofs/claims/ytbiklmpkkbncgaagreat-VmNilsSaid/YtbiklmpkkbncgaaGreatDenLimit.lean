/- What is shown over calls of any fuel is shown over calls of some fuel. -/
import Derived.Test.YtbiklmpkkbncgaaGreatDenMono
set_option linter.unusedSimpArgs false
set_option linter.unusedVariables false
set_option linter.unnecessarySimpa false
namespace Go.Den
open Go

def Ev (p : Nat → Prop) : Prop := ∃ K0, ∀ K, K0 ≤ K → p K
theorem Ev.mono {p q : Nat → Prop} (h : Ev p) (f : ∀ K, p K → q K) : Ev q := by
  obtain ⟨K0, h⟩ := h
  exact ⟨K0, fun K hK => f K (h K hK)⟩
theorem Ev.and {p q : Nat → Prop} (h : Ev p) (h' : Ev q) : Ev fun K => p K ∧ q K := by
  obtain ⟨K0, h⟩ := h
  obtain ⟨K1, h'⟩ := h'
  exact ⟨max K0 K1, fun K hK => ⟨h K (by omega), h' K (by omega)⟩⟩
theorem Ev.const {p : Prop} (h : p) : Ev fun _ => p := ⟨0, fun _ _ => h⟩

/-- what t answers, cs does from some number on -/
def CallLeF (t : CallK) (cs : Nat → CallO) : Prop := ∀ f args h ps K out, t f args h ps K = some out → ∃ o, K o = some out ∧ Ev fun N => cs N f args h ps = some o

def FixE (P : Program) (pol : Pol) (cs : Nat → CallO) (fn : FuncId) (nw : Option Nat) (e : Operand → AV) (o : Oper) (s : Hs) (k kp : AV → Hs → R) (out : Out) : Prop :=
  (∃ v s', k v s' = some out ∧ Ev fun N => ∀ k' kp', opD P pol (bindK (cs N)) fn nw e o s k' kp' = k' v s') ∨
  (∃ v s', kp v s' = some out ∧ Ev fun N => ∀ k' kp', opD P pol (bindK (cs N)) fn nw e o s k' kp' = kp' v s')

section
variable {P : Program}

theorem opD_ev {pol : Pol} {call : CallK} {cs : Nat → CallO} (hle : CallLeF call cs) {fn : FuncId} {nw : Option Nat} {e : Operand → AV} {o : Oper} {s : Hs} {k kp : AV → Hs → R} {out : Out} (h : opD P pol call fn nw e o s k kp = some out) :
    FixE P pol cs fn nw e o s k kp out := by
  obtain ⟨dst, op, ty, pos, after, guard⟩ := o
  cases op
  case pick cn x y =>
    simp only [opD] at h
    split at h
    · rename_i t ec
      cases t with
      | true => exact .inl ⟨_, _, h, 0, fun _ _ k' kp' => by simp only [opD, ec, cond_true]⟩
      | false => exact .inl ⟨_, _, h, 0, fun _ _ k' kp' => by simp only [opD, ec, cond_false]⟩
    · cases h
  case alloc t =>
    simp only [opD] at h
    split at h
    · rename_i cs ez
      obtain ⟨i, h', _, h, hd⟩ := newD_eq h
      exact .inl ⟨_, _, h, 0, fun _ _ k' kp' => by simp only [opD, ez, hd]⟩
    · cases h
  case box t x =>
    simp only [opD] at h
    split at h
    · rename_i cs ez
      obtain ⟨i, h', _, h, hd⟩ := newD_eq h
      exact .inl ⟨_, _, h, 0, fun _ _ k' kp' => by simp only [opD, ez, hd]⟩
    · cases h
  case buildSlice t len parts =>
    simp only [opD] at h
    split at h
    · rename_i el eel
      split at h
      · rename_i z ps ez ep
        cases hall : (ps.all (fun p => decide (p.1 < len)) && decide (len * P.cellsOf el ≤ 16777216)) with
        | false => rw [hall] at h; cases h
        | true =>
          rw [hall] at h
          simp only [cond_true] at h
          cases hgr : pol.grow fn (dst.getD 0) with
          | true =>
            rw [hgr] at h
            simp only [cond_true] at h
            obtain ⟨i, h', _, h, hd⟩ := newD_eq h
            exact .inl ⟨_, _, h, 0, fun _ _ k' kp' => by simp only [opD, eel, ez, ep, hall, hgr, cond_true, hd]⟩
          | false =>
            rw [hgr] at h
            exact .inl ⟨_, _, h, 0, fun _ _ k' kp' => by simp only [opD, eel, ez, ep, hall, hgr, cond_true, cond_false]⟩
      · cases h
    · cases h
  case store t ad x =>
    simp only [opD] at h
    split at h
    · rename_i cs ecs
      obtain ⟨h', est, h⟩ := storeK_eq h
      exact .inl ⟨_, _, h, 0, fun _ _ k' kp' => by simp only [opD, ecs]; rw [storeK_of est]⟩
    · cases h
  case indexAddr t x ix =>
    simp only [opD] at h
    split at h
    · rename_i el z tk n f i e1 e2 e3
      split at h
      · rename_i hb
        cases hz : sized P el z with
        | false => rw [hz] at h; cases h
        | true =>
          rw [hz] at h
          have h2 := castCs_det (K := fun row => k (.pp row 0) s) h
          have h := castCs_eq (K := fun row => k (.pp row 0) s) h
          exact .inl ⟨_, _, h, 0, fun _ _ k' kp' => by
            simp only [opD, e1, e2, e3, hz, cond_true]
            rw [dif_pos hb]
            exact h2 fun row => k' (.pp row 0) s⟩
      · cases h
    · rename_i el id gen off len i e1 e2 e3
      split at h
      · rename_i z gen' n f e4
        cases hz : (gen == gen' && sized P el z) with
        | false => rw [hz] at h; cases h
        | true =>
          rw [hz] at h
          cases hb : (decide (0 ≤ i) && decide (i.toNat < len)) with
          | false => rw [hb] at h; cases h
          | true =>
            rw [hb] at h
            exact .inl ⟨_, _, h, 0, fun _ _ k' kp' => by simp only [opD, e1, e2, e3, e4, hz, hb, cond_true]⟩
      · cases h
    · rename_i n el id gen row q i e1 e2 e3
      cases hz : (standing s.h (.ptr id gen row q) && sized P el (P.cellsOf el)) with
      | false => rw [hz] at h; cases h
      | true =>
        rw [hz] at h
        cases hb : (decide (0 ≤ i) && decide (i.toNat < n)) with
        | false => rw [hb] at h; cases h
        | true =>
          rw [hb] at h
          exact .inl ⟨_, _, h, 0, fun _ _ k' kp' => by simp only [opD, e1, e2, e3, hz, hb, cond_true]⟩
    · rename_i n el row q i e1 e2 e3
      cases hb : (decide (0 ≤ i) && decide (i.toNat < n) && sized P el (P.cellsOf el)) with
      | false => rw [hb] at h; cases h
      | true =>
        rw [hb] at h
        exact .inl ⟨_, _, h, 0, fun _ _ k' kp' => by simp only [opD, e1, e2, e3, hb, cond_true]⟩
    · cases h
  case index t x ix =>
    simp only [opD] at h
    split at h
    · rename_i b i e1 e2 e3
      split at h
      · rename_i hb
        exact .inl ⟨_, _, h, 0, fun _ _ k' kp' => by
          simp only [opD, e1, e2, e3]
          rw [dif_pos hb]⟩
      · cases h
    · rename_i n el cs i e1 e2 e3
      cases hb : (decide (0 ≤ i) && decide (i.toNat < n) && sized P el (P.cellsOf el)) with
      | false => rw [hb] at h; cases h
      | true =>
        rw [hb] at h
        simp only [cond_true] at h
        split at h
        · rename_i v ev
          exact .inl ⟨_, _, h, 0, fun _ _ k' kp' => by simp only [opD, e1, e2, e3, hb, cond_true, ev]⟩
        · cases h
    · cases h
  case slice t x lo hi mx =>
    simp only [opD] at h
    split at h
    · rename_i b e1 e2
      split at h
      · rename_i l u e3 e4
        cases hb : (decide (0 ≤ l) && decide (l ≤ u) && decide (u ≤ b.length)) with
        | false => rw [hb] at h; cases h
        | true =>
          rw [hb] at h
          exact .inl ⟨_, _, h, 0, fun _ _ k' kp' => by simp only [opD, e1, e2, e3, e4, hb, cond_true]⟩
      · cases h
    · rename_i el z tk n f e1 e2
      split at h
      · rename_i l u m e3 e4 e5
        split at h
        · rename_i hb
          cases hz : sized P el z with
          | false => rw [hz] at h; cases h
          | true =>
            rw [hz] at h
            simp only [cond_true] at h
            cases mx with
            | some my =>
              simp only at h
              cases hmu : (hi.isSome && m == u) with
              | false => rw [hmu] at h; cases h
              | true =>
                rw [hmu] at h
                exact .inl ⟨_, _, h, 0, fun _ _ k' kp' => by
                  simp only [opD, e1, e2, e3, e4, e5, hz, hmu, cond_true]
                  rw [dif_pos hb]⟩
            | none =>
              exact .inl ⟨_, _, h, 0, fun _ _ k' kp' => by
                simp only [opD, e1, e2, e3, e4, e5, hz, cond_true]
                rw [dif_pos hb]⟩
        · cases h
      · cases h
    · rename_i el id gen off len e1 e2
      split at h
      · rename_i l u z gen' n f e3 e4 e5
        cases hz : (gen == gen' && sized P el z) with
        | false => rw [hz] at h; cases h
        | true =>
          rw [hz] at h
          cases hb : (decide (0 ≤ l) && decide (l ≤ u) && decide (u ≤ len)) with
          | false => rw [hb] at h; cases h
          | true =>
            rw [hb] at h
            exact .inl ⟨_, _, h, 0, fun _ _ k' kp' => by simp only [opD, e1, e2, e3, e4, e5, hz, hb, cond_true]⟩
      · cases h
    · cases h
  case makeSlice t l cp =>
    simp only [opD] at h
    split at h
    · rename_i el n e1 e2
      split at h
      · rename_i z ez
        cases hb : (sameO l cp && decide (0 ≤ n) && roomy n.toNat (P.bytesOf el)) with
        | false => rw [hb] at h; cases h
        | true =>
          rw [hb] at h
          simp only [cond_true] at h
          obtain ⟨i, h', _, h, hd⟩ := newD_eq h
          exact .inl ⟨_, _, h, 0, fun _ _ k' kp' => by simp only [opD, e1, e2, ez, hb, cond_true, hd]⟩
      · cases h
    · cases h
  case load t ad =>
    simp only [opD] at h
    obtain ⟨i, gen, row, off, o, v, _, hi, h1, h2⟩ := loadK_det h
    exact .inl ⟨_, _, h1, 0, fun _ _ k' kp' => by simp only [opD]; rw [h2 _ hi]⟩
  case makeMap t r =>
    simp only [opD] at h
    split at h
    · rename_i kt el e1
      generalize hb : (keyTy P kt && _) = bb at h
      cases bb with
      | false => cases h
      | true =>
        simp only [cond_true] at h
        obtain ⟨i, h', _, h, hd⟩ := newD_eq h
        exact .inl ⟨_, _, h, 0, fun _ _ k' kp' => by simp only [opD, e1, hb, cond_true, hd]⟩
    · cases h
  case lookup t m x ok =>
    simp only [opD] at h
    split at h
    · rename_i kt el e1
      split at h
      · rename_i z ez
        rcases findD_eq h with ⟨u, h1, h2⟩ | ⟨h1, h2⟩
        · cases ok with
          | true => exact .inl ⟨_, _, h1, 0, fun _ _ k' kp' => by simp only [opD, e1, ez, h2, cond_true]⟩
          | false => exact .inl ⟨_, _, h1, 0, fun _ _ k' kp' => by simp only [opD, e1, ez, h2, cond_false]⟩
        · cases ok with
          | true => exact .inl ⟨_, _, h1, 0, fun _ _ k' kp' => by simp only [opD, e1, ez, h2, cond_true]⟩
          | false => exact .inl ⟨_, _, h1, 0, fun _ _ k' kp' => by simp only [opD, e1, ez, h2, cond_false]⟩
      · cases h
    · cases h
  case mapUpdate t m x y =>
    simp only [opD] at h
    split at h
    · rename_i kt el e1
      obtain ⟨i, o₀, o, _, hi, _, _, h1, h2⟩ := layD_eq h
      exact .inl ⟨_, _, h1, 0, fun _ _ k' kp' => by simp only [opD, e1]; rw [h2 _ hi]⟩
    · cases h
  case insert t m x y =>
    simp only [opD] at h
    split at h
    · rename_i kt el e1
      obtain ⟨i, o₀, o, _, hi, _, _, h1, h2⟩ := layD_eq h
      exact .inl ⟨_, _, h1, 0, fun _ _ k' kp' => by simp only [opD, e1]; rw [h2 _ hi]⟩
    · cases h
  case panic x =>
    simp only [opD] at h
    split at h
    · rename_i t v ev
      exact .inr ⟨_, _, h, 0, fun _ _ k' kp' => by simp only [opD, ev]⟩
    · cases h
  case defer cl =>
    simp only [opD] at h
    split at h
    · rename_i f ecal
      split at h
      · rename_i g cap ef
        cases hsz : (cl.args.size == 0 && nw.isNone) with
        | false => rw [hsz] at h; cases h
        | true =>
          rw [hsz] at h
          exact .inl ⟨_, _, h, 0, fun _ _ k' kp' => by simp only [opD, ecal, ef, hsz, cond_true]⟩
      · cases h
    · cases h
  case typeAssert x xt asserted ok =>
    simp only [opD] at h
    split at h
    · cases h
    · rename_i d e2 e1 e3
      cases ok with
      | false => cases h
      | true =>
        simp only [cond_true] at h
        split at h
        · rename_i z ez
          exact .inl ⟨_, _, h, 0, fun _ _ k' kp' => by
            simp only [opD, e1, e3, cond_true, ez]⟩
        · cases h
    · rename_i d t v e2 e1 e3
      cases hta : t == asserted with
      | true =>
        rw [hta] at h
        cases ok with
        | true => exact .inl ⟨_, _, h, 0, fun _ _ k' kp' => by simp only [opD, e1, e3, hta, cond_true]⟩
        | false => exact .inl ⟨_, _, h, 0, fun _ _ k' kp' => by simp only [opD, e1, e3, hta, cond_true, cond_false]⟩
      | false =>
        rw [hta] at h
        cases ok with
        | false => cases h
        | true =>
          simp only [cond_true, cond_false] at h
          split at h
          · rename_i z ez
            exact .inl ⟨_, _, h, 0, fun _ _ k' kp' => by simp only [opD, e1, e3, hta, cond_true, cond_false, ez]⟩
          · cases h
    · cases h
  case binOp op t x y rt =>
    simp only [opD] at h
    split at h
    · rename_i kk m kk' n e1 e2
      split at h
      · rename_i ek; subst ek
        cases hn : n == 0 with
        | true => rw [hn] at h; cases h
        | false => rw [hn] at h; exact .inl ⟨_, _, h, 0, fun _ _ k' kp' => by simp only [opD, e1, e2, if_true, hn, cond_false]⟩
      · cases h
    · rename_i kk m kk' n e1 e2
      split at h
      · rename_i ek; subst ek
        cases hn : n == 0 with
        | true => rw [hn] at h; cases h
        | false => rw [hn] at h; exact .inl ⟨_, _, h, 0, fun _ _ k' kp' => by simp only [opD, e1, e2, if_true, hn, cond_false]⟩
      · cases h
    · rename_i kk m kk' n e1 e2
      cases hn : decide (n < 0) with
      | true => rw [hn] at h; cases h
      | false => rw [hn] at h; exact .inl ⟨_, _, h, 0, fun _ _ k' kp' => by simp only [opD, e1, e2, hn, cond_false]⟩
    · rename_i kk m kk' n e1 e2
      cases hn : decide (n < 0) with
      | true => rw [hn] at h; cases h
      | false => rw [hn] at h; exact .inl ⟨_, _, h, 0, fun _ _ k' kp' => by simp only [opD, e1, e2, hn, cond_false]⟩
    · rename_i l m e1 e2
      cases hn : decide (l.length + m.length < 1099511627776) with
      | false => rw [hn] at h; cases h
      | true => rw [hn] at h; exact .inl ⟨_, _, h, 0, fun _ _ k' kp' => by simp only [opD, e1, e2, hn, cond_true]⟩
    · cases h
  case call cl =>
    obtain ⟨callee, args, argTypes⟩ := cl
    cases callee with
    | value f =>
      simp only [opD] at h
      cases ecl : cloneOf P f with
      | some el =>
        rw [ecl] at h
        simp only at h
        split at h
        · rename_i x e1
          cases hz : (sized P el (P.cellsOf el) && (zeroT P el).isSome) with
          | false => rw [hz] at h; cases h
          | true =>
            rw [hz] at h
            simp only [cond_true] at h
            split at h
            · rename_i m g e5
              have hap : ∃ v h', k v { s with h := h' } = some out ∧ ∀ kk : AV → List Den.Obj → R, cloneD nw s.h (pol.grow fn (dst.getD 0)) (P.cellsOf el) (P.bytesOf el) m g kk = kk v h' := cloneD_det h
              obtain ⟨v, h', hk, hd⟩ := hap
              exact .inl ⟨v, _, hk, 0, fun _ _ k' kp' => by
                simp only [opD, ecl, e1, hz, cond_true, e5]
                exact hd fun v h => k' v { s with h := h }⟩
            · cases h
        · cases h
      | none =>
      rw [ecl] at h
      simp only at h
      split at h
      · rename_i g cap ef
        split at h
        · rename_i gf egf
          cases hbody : gf.body.isNone with
          | true => rw [hbody] at h; cases h
          | false =>
            rw [hbody] at h
            simp only [cond_false] at h
            split at h
            · rename_i args' eargs
              obtain ⟨out', h, K0, hr⟩ := hle _ _ _ _ _ _ h
              cases out' with
              | ret v h' ps' =>
                simp only [onOut] at h
                have hd := castR_det (K := fun v => k (freeze 0 [] v) s) h
                exact .inl ⟨_, _, castR_eq (K := fun v => k (freeze 0 [] v) s) h, K0, fun K hK k' kp' => by
                  simp only [opD, bindK, ecl, ef, egf, hbody, cond_false, eargs, hr K hK, onOut]
                  exact hd fun v => k' (freeze 0 [] v) s⟩
              | pan v h' ps' =>
                simp only [onOut] at h
                exact .inr ⟨_, _, h, K0, fun K hK k' kp' => by
                  simp only [opD, bindK, ecl, ef, egf, hbody, cond_false, eargs, hr K hK, onOut]⟩
            · rename_i eargs
              obtain ⟨out', h, K0, hr⟩ := hle _ _ _ _ _ _ h
              cases out' with
              | ret v h' ps' =>
                simp only [onOut] at h
                have hd := castR_det (K := fun v => k v { s with h := h' }) h
                exact .inl ⟨_, _, castR_eq (K := fun v => k v { s with h := h' }) h, K0, fun K hK k' kp' => by
                  simp only [opD, bindK, ecl, ef, egf, hbody, cond_false, eargs, hr K hK, onOut]
                  exact hd fun v => k' v { s with h := h' }⟩
              | pan v h' ps' =>
                simp only [onOut] at h
                exact .inr ⟨_, _, h, K0, fun K hK k' kp' => by
                  simp only [opD, bindK, ecl, ef, egf, hbody, cond_false, eargs, hr K hK, onOut]⟩
        · cases h
      · cases h
    | invoke r n => simp only [opD] at h; cases h
    | builtin b =>
      cases b <;> try (simp only [opD] at h; cases h)
      case recover =>
        simp only [opD] at h
        cases nw with
        | some n => cases h
        | none =>
        simp only [Option.isSome_none, cond_false] at h
        split at h
        · rename_i v eps; exact .inl ⟨_, _, h, 0, fun _ _ k' kp' => by simp only [opD, eps, Option.isSome_none, cond_false]⟩
        · rename_i hne
          refine .inl ⟨_, _, h, 0, fun _ _ k' kp' => ?_⟩
          simp only [opD, Option.isSome_none, cond_false]
      case append =>
        simp only [opD] at h
        split at h
        · rename_i sx xx ts tx e1 e2
          split at h
          · rename_i el ex e3 e4
            cases hz : (sized P el (P.cellsOf el) && (zeroT P el).isSome) with
            | false => rw [hz] at h; cases h
            | true =>
              rw [hz] at h
              simp only [cond_true] at h
              split at h
              · rename_i m g e5
                have hap : ∃ v h', k v { s with h := h' } = some out ∧ ∀ kk : AV → List Den.Obj → R, appendD nw s.h (pol.grow fn (dst.getD 0)) (P.cellsOf el) (P.bytesOf el) (coerce P ts (e sx)) m g kk = kk v h' := appendD_det h
                obtain ⟨v, h', hk, hd⟩ := hap
                exact .inl ⟨v, _, hk, 0, fun _ _ k' kp' => by
                  simp only [opD, e1, e2, e3, e4, hz, cond_true, e5]
                  exact hd fun v h => k' v { s with h := h }⟩
              · cases h
          · cases h
        · cases h
  all_goals (simp only [opD] at h; cases h)



theorem splitJ_ev {out : Out} : ∀ {js : Js} {T : List AV} {yes : List AV → R} {yes' : Nat → List AV → R} {no : List AV → R} {no' : Nat → List AV → R}, (∀ T, yes T = some out → Ev fun N => yes' N T = some out) → (∀ T, no T = some out → Ev fun N => no' N T = some out) →
    splitJ js T yes no = some out → Ev fun N => splitJ js T (yes' N) (no' N) = some out := by
  intro js
  induction js with
  | nil => intro T yes yes' no no' hy _ h; exact hy _ h
  | cons p js ihj =>
    intro T yes yes' no no' hy hn h
    obtain ⟨d, w⟩ := p
    simp only [splitJ] at h ⊢
    split at h
    · rename_i c ec
      try simp only [ec]
      cases hcw : c == w with
      | true => rw [hcw] at h; exact ihj hy hn h
      | false => rw [hcw] at h; exact hn _ h
    · cases h

theorem opsD_ev {pol : Pol} {call : CallK} {cs : Nat → CallO} (hle : CallLeF call cs) {fn : FuncId} {all : Array Oper} {out : Out} : ∀ (l : List Oper) {st : St} {k : St → R} {k' : Nat → St → R} {kp : AV → St → R} {kp' : Nat → AV → St → R},
    (∀ st, k st = some out → Ev fun N => k' N st = some out) → (∀ v st, kp v st = some out → Ev fun N => kp' N v st = some out) → opsD P pol call fn all l st k kp = some out →
    Ev fun N => opsD P pol (bindK (cs N)) fn all l st (k' N) (kp' N) = some out := by
  intro l
  induction l with
  | nil => intro st k k' kp kp' hk hkp h; exact hk _ h
  | cons o l ih =>
    intro st k k' kp kp' hk hkp h
    simp only [opsD] at h ⊢
    split at h
    · rename_i hg; (try simp only [hg]); exact ih hk hkp h
    · cases h
    · rename_i js hg
      try simp only [hg]
      cases hp : pureG P st.T js st.s.h o with
      | some v => rw [hp] at h; exact ih hk hkp h
      | none =>
        rw [hp] at h
        simp only at h ⊢
        refine splitJ_ev (fun T h => ?_) (fun T h => ih hk hkp h) h
        rcases opD_ev hle h with ⟨v, s', h1, h2⟩ | ⟨v, s', h1, h2⟩
        · exact ((ih hk hkp h1).and h2).mono fun K ⟨h3, h4⟩ => by rw [h4]; exact h3
        · exact ((hkp _ _ h1).and h2).mono fun K ⟨h3, h4⟩ => by rw [h4]; exact h3

theorem opsW_ev {pol : Pol} {call : CallK} {cs : Nat → CallO} (hle : CallLeF call cs) {fn : FuncId} {all : Array Oper} {ah : List Nat} {out : Out} : ∀ (l : List Oper) {i n : Nat} {ps : List Fp} {st : St} {k : St → R} {k' : Nat → St → R} {kp : AV → St → R} {kp' : Nat → AV → St → R},
    (∀ st, k st = some out → Ev fun N => k' N st = some out) → (∀ v st, kp v st = some out → Ev fun N => kp' N v st = some out) → opsW P pol call fn all ah l i n ps st k kp = some out →
    Ev fun N => opsW P pol (bindK (cs N)) fn all ah l i n ps st (k' N) (kp' N) = some out := by
  intro l
  induction l with
  | nil => intro i n ps st k k' kp kp' hk hkp h; exact hk _ h
  | cons o l ih =>
    intro i n ps st k k' kp kp' hk hkp h
    simp only [opsW] at h ⊢
    split at h
    · rename_i hg; (try simp only [hg]); exact ih hk hkp h
    · cases h
    · rename_i js hg
      try simp only [hg]
      cases hf : freeOf ah ps (fpOf P pol fn i n (hidGo P pol fn ah i st.s.h all.toList 0 st.T) (evalG st.T js) o) with
      | false => rw [hf] at h; cases h
      | true =>
      rw [hf] at h
      simp only [cond_true] at h ⊢
      cases hp : pureG P st.T js st.s.h o with
      | some v => rw [hp] at h; exact ih hk hkp h
      | none =>
        rw [hp] at h
        simp only at h ⊢
        cases hh : holdsJ st.T [] js with
        | none => rw [hh] at h; cases h
        | some b =>
          rw [hh] at h
          cases b with
          | true =>
            simp only [cond_true] at h ⊢
            rcases opD_ev hle h with ⟨v, s', h1, h2⟩ | ⟨v, s', h1, h2⟩
            · obtain ⟨hb, h1⟩ := cond_some h1
              exact ((ih hk hkp h1).and h2).mono fun K ⟨h3, h4⟩ => by rw [h4]; simp only [hb, cond_true]; exact h3
            · exact ((hkp _ _ h1).and h2).mono fun K ⟨h3, h4⟩ => by rw [h4]; exact h3
          | false => exact ih hk hkp h

theorem loopD_ev {keep : Bool} {h0 : Nat} {B : St → (Den.Exit → St → R) → R} {B' : Nat → St → (Den.Exit → St → R) → R} {out : Out}
    (hB : ∀ (st : St) (k : Den.Exit → St → R) (k' : Nat → Den.Exit → St → R), (∀ e st, k e st = some out → Ev fun N => k' N e st = some out) → B st k = some out → Ev fun N => B' N st (k' N) = some out) :
    ∀ (n : Nat), ∀ {st : St} {k : Den.Exit → St → R} {k' : Nat → Den.Exit → St → R}, (∀ e st, k e st = some out → Ev fun N => k' N e st = some out) → loopD keep h0 B n st k = some out → Ev fun N => loopD keep h0 (B' N) n st (k' N) = some out := by
  intro n
  induction n with
  | zero => intro st k k' _ h; cases h
  | succ n ih =>
    intro st k k' hk h
    simp only [loopD] at h ⊢
    refine hB _ _ (fun N e st' => match e with | .normal => loopD keep h0 (B' N) n (cond keep st' (st'.cut h0)) (k' N) | e => k' N e st') (fun e st' h => ?_) h
    cases e with
    | normal => exact ih hk h
    | exit i => exact hk _ _ h
    | ret => exact hk _ _ h
    | pan v => exact hk _ _ h

theorem codeD_ev {pol : Pol} {call : CallK} {cs : Nat → CallO} (hle : CallLeF call cs) {fn : FuncId} {n : Nat} {out : Out} : ∀ (x : Code) {st : St} {k : Den.Exit → St → R} {k' : Nat → Den.Exit → St → R},
    (∀ e st, k e st = some out → Ev fun N => k' N e st = some out) → codeD P pol call n fn x st k = some out → Ev fun N => codeD P pol (bindK (cs N)) n fn x st (k' N) = some out := by
  intro x
  induction x with
  | skip => intro st k k' hk h; exact hk _ _ h
  | label l => intro st k k' hk h; exact hk _ _ h
  | exit i => intro st k k' hk h; exact hk _ _ h
  | ret => intro st k k' hk h; exact hk _ _ h
  | region id ops draw =>
    intro st k k' hk h
    simp only [codeD] at h ⊢
    cases hc : (draw && !drawOK ops || !regOK ops) with
    | true => rw [hc] at h; cases h
    | false =>
      rw [hc] at h
      simp only [cond_false] at h ⊢
      cases draw with
      | true =>
        refine opsW_ev hle _ (k' := fun N st' => k' N .normal (killSt (pol.dead fn id) (clearG (anyGuard ops.toList) st'))) (kp' := fun N v st' => cond (panOK P pol fn ops) (k' N (.pan v) (wipe ops st')) none) (fun st h => hk _ _ h) (fun v st h => ?_) h
        cases hp : panOK P pol fn ops with
        | true => rw [hp] at h; exact hk _ _ h
        | false => rw [hp] at h; cases h
      | false =>
        exact opsD_ev hle _ (k' := fun N st' => k' N .normal (killSt (pol.dead fn id) (clearG (anyGuard ops.toList) st'))) (kp' := fun N v st' => k' N (.pan v) (clearG true st')) (fun st h => hk _ _ h) (fun v st h => hk _ _ h) h
  | seq a b iha ihb =>
    intro st k k' hk h
    simp only [codeD] at h ⊢
    refine iha (k' := fun N e st' => match e with | .normal => codeD P pol (bindK (cs N)) n fn b st' (k' N) | e => k' N e st') (fun e st h => ?_) h
    cases e with
    | normal => exact ihb hk h
    | exit i => exact hk _ _ h
    | ret => exact hk _ _ h
    | pan v => exact hk _ _ h
  | cond c x y ihx ihy =>
    intro st k k' hk h
    simp only [codeD] at h ⊢
    split at h
    · rename_i b eb
      try simp only [eb]
      cases b with
      | true => exact ihx hk h
      | false => exact ihy hk h
    · cases h
  | block i c ih =>
    intro st k k' hk h
    simp only [codeD] at h ⊢
    refine ih (k' := fun N e st' => match e with | .exit j => cond (j == i) (k' N .normal st') (k' N (.exit j) st') | e => k' N e st') (fun e st h => ?_) h
    cases e with
    | normal => exact hk _ _ h
    | exit j =>
      simp only at h ⊢
      cases hj : j == i with
      | true => rw [hj] at h; exact hk _ _ h
      | false => rw [hj] at h; exact hk _ _ h
    | ret => exact hk _ _ h
    | pan v => exact hk _ _ h
  | loop c ih =>
    intro st k k' hk h
    simp only [codeD] at h ⊢
    exact loopD_ev (B := codeD P pol call n fn c) (B' := fun N => codeD P pol (bindK (cs N)) n fn c) (fun st k k' hk h => ih hk h) n hk h
  | scope c ih => intro st k k' hk h; exact ih hk h
  | _ => intro st k k' hk h; simp only [codeD] at h; cases h

theorem leaveD_ev {call : CallK} {cs : Nat → CallO} (hle : CallLeF call cs) {f : Func} {out : Out} : ∀ (ds : List AV) {st : St} {pan : Option AV}, leaveD P call f ds st pan = some out → Ev fun N => leaveD P (bindK (cs N)) f ds st pan = some out := by
  intro ds
  induction ds with
  | nil => intro st pan h; cases pan <;> exact .const h
  | cons d ds ih =>
    intro st pan h
    simp only [leaveD] at h
    split at h
    · rename_i g cap
      obtain ⟨o, h, e⟩ := hle _ _ _ _ _ _ h
      cases o with
      | ret v h' ps' => exact ((ih h).and e).mono fun K ⟨h1, h2⟩ => by simp only [leaveD, bindK, h2]; exact h1
      | pan => cases h
    · cases h

theorem bodyD_ev {pol : Pol} {call : CallK} {cs : Nat → CallO} (hle : CallLeF call cs) {n : Nat} {f : FuncId} {args : List AV} {h : List Obj} {ps : PS} {out : Out} (e : bodyD P pol call n f args h ps = some out) : Ev fun N => bodyD P pol (bindK (cs N)) n f args h ps = some out := by
  simp only [bodyD] at e ⊢
  split at e
  · rename_i fn hfn
    try simp only
    split at e
    · rename_i c hc
      try simp only
      refine codeD_ev hle c (fun ex st h => ?_) e
      have sh : ∀ {r : R} {r' : Nat → R}, (∀ o, r = some o → Ev fun N => r' N = some o) → ∀ {full hold : Bool} {m : Nat} {o : Out}, shut full hold m r = some o → Ev fun N => shut full hold m (r' N) = some o := by
        intro r r' hr full hold m o hs
        cases r with
        | none => cases hs
        | some x => exact (hr x rfl).mono fun K h => by rw [h]; exact hs
      refine sh (fun o h => ?_) h
      split at h
      · exact leaveD_ev hle _ h
      · exact leaveD_ev hle _ h
      · exact leaveD_ev hle _ h
      · exact leaveD_ev hle _ h
      · exact leaveD_ev hle _ h
      · cases h
    · cases e
  · cases e

/-- one answer for all fuels -/
noncomputable def denA (P : Program) (pol : Pol) (ext : FuncId → Option CallO) : CallO := fun f args h ps =>
  open Classical in if hx : ∃ o k, den P pol ext k f args h ps = some o then some hx.choose else none

theorem denA_of {pol : Pol} {ext : FuncId → Option CallO} {k : Nat} {f : FuncId} {args : List AV} {h : List Obj} {ps : PS} {o : Out}
    (e : den P pol ext k f args h ps = some o) : denA P pol ext f args h ps = some o := by
  have hx : ∃ o k, den P pol ext k f args h ps = some o := ⟨o, k, e⟩
  unfold denA
  rw [dif_pos hx]
  obtain ⟨k', e'⟩ := hx.choose_spec
  have h1 := den_mono pol ext (Nat.le_max_left k k') _ _ _ _ _ e
  have h2 := den_mono pol ext (Nat.le_max_right k k') _ _ _ _ _ e'
  rw [h1] at h2
  exact h2.symm
theorem denA_to {pol : Pol} {ext : FuncId → Option CallO} {f : FuncId} {args : List AV} {h : List Obj} {ps : PS} {o : Out}
    (e : denA P pol ext f args h ps = some o) : Ev fun k => den P pol ext k f args h ps = some o := by
  unfold denA at e
  split at e
  · rename_i hx
    injection e with e
    subst e
    obtain ⟨k, hk⟩ := hx.choose_spec
    exact ⟨k, fun K hK => den_mono pol ext hK _ _ _ _ _ hk⟩
  · cases e

/-- a body, by what is known of the calls in it -/
theorem denA_of_body {pol : Pol} {ext : FuncId → Option CallO} {call : CallK} {n : Nat} (hle : CallLeK call (denA P pol ext)) {f : FuncId} (hf : ext f = none) {args : List AV} {h : List Obj} {ps : PS} {out : Out}
    (e : bodyD P pol call n f args h ps = some out) : denA P pol ext f args h ps = some out := by
  have hF : CallLeF call (den P pol ext) := by
    intro f args h ps K out e
    obtain ⟨o, h1, h2⟩ := hle _ _ _ _ _ _ e
    exact ⟨o, h1, denA_to h2⟩
  obtain ⟨K0, h0⟩ := bodyD_ev hF e
  refine denA_of (k := max K0 n + 1) ?_
  simp only [den, hf]
  exact bodyD_mono (CallLeK.of_le (fun _ _ _ _ _ h => h)) (by omega) (h0 (max K0 n) (by omega))

end
end Go.Den
