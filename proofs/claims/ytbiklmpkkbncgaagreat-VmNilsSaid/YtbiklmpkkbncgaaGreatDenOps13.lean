/- Operations: what one does in a frame. -/
import Derived.Test.YtbiklmpkkbncgaaGreatDenOpsC
set_option linter.unusedSimpArgs false
set_option linter.unusedVariables false
set_option linter.unnecessarySimpa false
namespace Go.Den
open Go

def Does (P : Program) (base : Base) (ops : Array Oper) (i : Nat) (o : Oper) (c : Cx) (a : Act) (cs : List Frame) (v : AV) (s' : Hs) : Prop :=
  ∀ (l : List Nat) (Q : Post), (∀ c' x ds' cs', Evol c c' → Fr base c' s' ds' cs' → VR c' v x → Runs P base.kind [.inRegion ops l] Q (({ a with defers := ds' } : Act).put o.dst x) cs' c'.w) →
    Runs P base.kind [.inRegion ops (i :: l)] Q a cs c.w

def Pans (P : Program) (base : Base) (ops : Array Oper) (i : Nat) (c : Cx) (a : Act) (cs : List Frame) (v : AV) (s' : Hs) : Prop :=
  ∀ (l : List Nat) (Q : Post), (∀ c' x, Evol c c' → Fr base c' s' a.defers cs → VR c' v x → Q (.panic [{ v := x, recovered := false }]) a cs c'.w) →
    Runs P base.kind [.inRegion ops (i :: l)] Q a cs c.w

section
variable {P : Program} {c : Cx} {s : Hs} {a : Act} {base : Base} {cs : List Frame} {ops : Array Oper} {i : Nat} {o : Oper}

theorem run_enter (hok : Okay P) {cl : Call} {f : Operand} {g : FuncId} {arr : Array Value} {fn : Func} {w : World} (ho : o.op = .call cl) (hc : cl.callee = .value f) (hf : a.eval f = .func (.func g) #[] arr)
    (hfn : P.funcs[g]? = some fn) (hb : fn.body.isSome = true) : (execOp a.eval o).run P w = .ok (.enter g (cl.args.map a.eval ++ arr)) w := by
  have h1 : fn.body ≠ none := by cases hfb : fn.body <;> simp [hfb] at hb ⊢
  have h2 : ¬ fn.name = "runtime.NumGoroutine" := by simpa using hok.names g fn hfn
  simp [execOp, ho, Go.resolve, hc, hf, Deferred.ofValue, invoke, callFunc, hfn, h2, h1]

theorem args_sound {cl : Call} {e : Operand → AV} {g : FuncId} {cap : List AV} {arr : Array Value} (ho : o.op = .call cl) (he : ∀ x ∈ o.op.operands, VR c (e x) (a.eval x))
    (hV : VR c (.fn g cap) (.func (.func g) #[] arr)) : ArgsR c (cl.args.toList.map e ++ cap) (cl.args.map a.eval ++ arr) := by
  cases hV with
  | fn _ _ _ hs hv =>
    refine ⟨by simp [hs], fun j u v e1 e2 => ?_⟩
    by_cases hj : j < cl.args.size
    · rw [List.getElem?_append_left (by simpa using hj)] at e1
      rw [Array.getElem?_append_left (by simpa using hj)] at e2
      rw [List.getElem?_map, Option.map_eq_some_iff] at e1
      rw [Array.getElem?_map, Option.map_eq_some_iff] at e2
      obtain ⟨x, e1, rfl⟩ := e1
      obtain ⟨y, e2, rfl⟩ := e2
      rw [Array.getElem?_toList, e2] at e1
      cases e1
      exact he _ (by
        rw [ho]
        simp only [Op.operands, Call.operands]
        exact Array.mem_append.2 (.inr (Array.mem_of_getElem? e2)))
    · rw [List.getElem?_append_right (by simpa using hj)] at e1
      rw [Array.getElem?_append_right (by simpa using hj)] at e2
      simp only [List.length_map, Array.length_toList, Array.size_map] at e1 e2
      exact hv _ u v e1 e2

theorem opD_runs (hok : Okay P) {call : CallO} (hcall : CallSound P call) {pol : Pol} {fn : FuncId} {nw : Option Nat} {e : Operand → AV} {k kp : AV → Hs → R} {out : Out} (ho : ops[i]? = some o)
    (hw : Region.wanted o (yielded ops a.tmps) = true) (hF : Fr base c s a.defers cs) (he : ∀ x ∈ o.op.operands, VR c (e x) (a.eval x)) (h : opD P pol (bindK call) fn nw e o s k kp = some out) :
    (∃ v s', k v s' = some out ∧ Does P base ops i o c a cs v s') ∨ (∃ v s', kp v s' = some out ∧ Pans P base ops i c a cs v s') := by
  rcases opD_gives hF.rel hF.h he h with ⟨v, s', hk, hG⟩ | hsp
  · left
    refine ⟨v, s', hk, fun l Q hQ => ?_⟩
    rcases hG with ⟨x, c', hrun, hst, hv⟩ | ⟨rfl, c', hrun, hst⟩
    · refine Runs.op_value ho hw hrun (hQ c' x a.defers cs hst.ev (hF.step hst) hv)
    · refine Runs.op_unit ho hw hrun (hQ c' undef a.defers cs hst.ev (hF.step hst) ?_)
      exact .tup [] #[] rfl fun j u v e => by simp at e
  · have hrefl : Step c c s s := Step.refl hF.rel hF.h
    obtain ⟨dst, op, ty, pos, after, guard⟩ := o
    cases op <;> simp only [special] at hsp
    case panic x =>
      right
      simp only [opD] at h
      split at h
      · rename_i t v ev
        refine ⟨_, _, h, fun l Q hQ => ?_⟩
        have hx := he x (by simp [Op.operands])
        rw [ev] at hx
        generalize hy : a.eval x = y at hx
        cases hx with
        | ifc _ _ xv hv =>
          refine Runs.op_panic ho hw (v := .iface t xv) (w' := c.w) ?_ (hQ c _ (Evol.refl c) hF (.ifc t v xv hv))
          simp [execOp, hy, Instr.panic, goPanic]
      · cases h
    case defer cl =>
      left
      simp only [opD] at h
      split at h
      · rename_i f ecal
        split at h
        · rename_i g cap ef
          cases hsz' : (cl.args.size == 0 && nw.isNone) with
          | false => rw [hsz'] at h; cases h
          | true =>
            rw [hsz'] at h
            simp only [cond_true] at h
            have hsz := (Bool.and_eq_true_iff.1 hsz').1
            rw [beq_iff_eq] at hsz
            have hargs : cl.args = #[] := Array.size_eq_zero_iff.1 hsz
            refine ⟨_, _, h, fun l Q hQ => ?_⟩
            have hf := he f (by simp [Op.operands, Call.operands, ecal])
            rw [ef] at hf
            generalize hy : a.eval f = y at hf
            cases hf with
            | fn _ _ arr hs hv =>
              refine Runs.op_defer ho hw (d := { target := .fn (.func g) arr, args := #[] }) (w' := c.w) ?_
                (hQ c undef _ cs (Evol.refl c) ⟨hF.rel, hF.h, ⟨⟨g, cap, arr, rfl, rfl, .fn g cap arr hs hv⟩, hF.ds⟩, hF.ps⟩ (.tup [] #[] rfl fun j u v e => by simp at e))
              simp [execOp, Go.resolve, ecal, hy, Deferred.ofValue, hargs]
        · cases h
      · cases h
    case call cl =>
      obtain ⟨callee, args, argTypes⟩ := cl
      cases callee with
      | invoke => exact hsp.elim
      | builtin b =>
        cases b <;> simp only at hsp
        left
        simp only [opD] at h
        cases nw with
        | some n => cases h
        | none =>
        simp only [Option.isSome_none, cond_false] at h
        have hrun : (execOp a.eval ⟨dst, .call ⟨.builtin .recover, args, argTypes⟩, ty, pos, after, guard⟩).run P c.w = .ok .recover c.w := by
          simp [execOp, Go.resolve, invoke, builtin]
        split at h
        · rename_i v eps
          refine ⟨_, _, h, fun l Q hQ => ?_⟩
          have hps := hF.ps
          rw [eps] at hps
          cases base with
          | plain cs₀ => exact hps.elim
          | deferred c₀ rest =>
            obtain ⟨u, ⟨x, rfl, hv⟩, rfl⟩ := hps
            refine Runs.op_recover ho hw rfl hrun ?_
            simp only [recoverD]
            exact hQ c x a.defers _ (Evol.refl c) ⟨hF.rel, hF.h, hF.ds, ⟨_, ⟨x, rfl⟩, rfl⟩⟩ hv
        · rename_i hne
          refine ⟨_, _, h, fun l Q hQ => ?_⟩
          cases base with
          | plain cs₀ => exact Runs.op_recover_plain ho hw rfl hrun (hQ c _ a.defers cs (Evol.refl c) hF .nilifc)
          | deferred c₀ rest =>
            have hps := hF.ps
            have hnone : recoverD cs = none := by
              have h' : ∃ u, ModeR c s.ps u ∧ cs = { c₀ with mode := u } :: rest := by
                generalize s.ps = q at hps; cases q <;> exact hps
              obtain ⟨u, h1, rfl⟩ := h'
              cases hq : s.ps with
              | plain => rw [hq] at h1; exact h1.elim
              | over => rw [hq] at h1; simp only [ModeR] at h1; subst h1; rfl
              | pan v => exact absurd hq (hne v)
              | met => rw [hq] at h1; obtain ⟨x, rfl⟩ := h1; rfl
            refine Runs.op_recover ho hw rfl hrun ?_
            rw [hnone]
            exact hQ c _ a.defers cs (Evol.refl c) hF .nilifc
      | value f =>
        simp only [opD, bindK] at h
        split at h
        · rename_i el ecl
          left
          split at h
          · rename_i x e1
            cases hz : (sized P el (P.cellsOf el) && (zeroT P el).isSome) with
            | false => rw [hz] at h; cases h
            | true =>
              rw [hz] at h
              simp only [Bool.and_eq_true] at hz
              simp only [cond_true] at h
              split at h
              · rename_i m g e5
                rw [← hF.h] at e5 h
                have hargs : args = #[x] := by rw [← e1]
                obtain ⟨vals, hsrc, hpu⟩ := src_sound hF.rel e5 (he x (by simp [Op.operands, Call.operands, hargs])) hz.1
                obtain ⟨g', hg', hcl⟩ : ∃ g', f = .func g' ∧ isClone P g' = some el := by
                  unfold cloneOf at ecl
                  split at ecl
                  · exact ⟨_, rfl, ecl⟩
                  · cases ecl
                subst hg'
                obtain ⟨base₀, cap₀, hxv, hnil⟩ := rows_slice e5 (he x (by simp [Op.operands, Call.operands, hargs]))
                have hsrc' := hsrc
                rw [hxv] at hsrc'
                have hroom : roomy m (P.bytesOf el) = true := by
                  unfold cloneD at h
                  cases hr : roomy m (P.bytesOf el) with
                  | true => rfl
                  | false => rw [hr] at h; cases h
                obtain ⟨⟨fn', hfn', hbs⟩, hC⟩ := clone_calls hF.rel hcl hz.1 (Option.isSome_iff_exists.1 hz.2) hsrc' hnil hroom
                have hrun := run_enter (o := ⟨dst, .call ⟨.value (.func g'), args, argTypes⟩, ty, pos, after, guard⟩) (a := a) (arr := #[]) (w := c.w) hok rfl rfl rfl hfn' hbs
                obtain ⟨v, h', hk, hd⟩ := cloneD_det h
                refine ⟨v, _, hk, fun l Q hQ => ?_⟩
                refine Runs.op_call ho hw hrun ?_
                have hargs' : args.map a.eval ++ #[] = #[.slice base₀ m cap₀] := by rw [hargs]; simp [hxv]
                rw [hargs']
                refine Calls.mono hC ?_
                intro e' w' hR
                classical
                obtain ⟨v', h₂, c', y, hk', rfl, hh, hE, hR', rfl, hv'⟩ := cloneD_sound (out := out) (k := fun v₁ h₁ => if v₁ = v ∧ h₁ = h' then some out else none) hF.rel hsrc (hpu rfl) (by rw [hd]; simp) hR
                have hvh : v' = v ∧ h₂ = h' := by
                  by_cases hq : v' = v ∧ h₂ = h'
                  · exact hq
                  · rw [if_neg hq] at hk'; cases hk'
                obtain ⟨rfl, rfl⟩ := hvh
                exact hQ c' y a.defers cs hE (hF.step ⟨hE, hR', hh, rfl, rfl⟩) hv'
              · cases h
          · cases h
        split at h
        · rename_i g cap ef
          have hf := he f (by simp [Op.operands, Call.operands])
          rw [ef] at hf
          generalize hy : a.eval f = y at hf
          cases hf with
          | fn _ _ arr hs hv =>
            have hA := args_sound (o := ⟨dst, .call ⟨.value f, args, argTypes⟩, ty, pos, after, guard⟩) rfl he (.fn g cap arr hs hv)
            split at h
            · rename_i gf egf
              cases hbody : gf.body.isNone with
              | true => rw [hbody] at h; cases h
              | false =>
                rw [hbody] at h
                simp only [cond_false] at h
                have hbs : gf.body.isSome = true := by cases hx : gf.body <;> simp [hx] at hbody ⊢
                have hrun := run_enter (o := ⟨dst, .call ⟨.value f, args, argTypes⟩, ty, pos, after, guard⟩) (w := c.w) hok rfl rfl hy egf hbs
                split at h
                · rename_i args' eargs
                  cases hfull : pol.full g with
                  | true => rw [hfull] at eargs; cases eargs
                  | false =>
                    rw [hfull] at eargs
                    simp only [cond_false] at eargs
                    cases hr : call g args' [] .plain with
                    | none => rw [hr] at h; cases h
                    | some out' =>
                      rw [hr] at h
                      have hiso := call_isolated hcall hF.rel hA eargs hr
                      cases out' with
                      | ret v h' ps' =>
                        left
                        simp only [onOut] at h
                        refine ⟨_, _, castR_eq (K := fun v => k (freeze 0 [] v) s) h, fun l Q hQ => ?_⟩
                        refine Runs.op_call ho hw hrun (Calls.mono hiso ?_)
                        rintro e' w' ⟨c', rfl, hh, hE, hR, x, rfl, hv'⟩
                        exact hQ c' x a.defers cs hE (hF.step ⟨hE, hR, by rw [hh, hF.h], rfl, rfl⟩) hv'
                      | pan v h' ps' =>
                        right
                        simp only [onOut] at h
                        refine ⟨_, _, h, fun l Q hQ => ?_⟩
                        refine Runs.op_call ho hw hrun (Calls.mono hiso ?_)
                        rintro e' w' ⟨c', rfl, hh, hE, hR, x, rfl, hv'⟩
                        exact hQ c' x hE (hF.step ⟨hE, hR, by rw [hh, hF.h], rfl, rfl⟩) hv'
                · skip
                  cases hr : call g (args.toList.map e ++ cap) s.h .plain with
                  | none => rw [hr] at h; cases h
                  | some out' =>
                    rw [hr] at h
                    have hsh := ((hcall _ _ _ _ _ hr).2 c _ hF.rel hF.h hA).1 rfl
                    cases out' with
                    | ret v h' ps' =>
                      left
                      simp only [onOut] at h
                      refine ⟨_, _, castR_eq (K := fun v => k v { s with h := h' }) h, fun l Q hQ => ?_⟩
                      refine Runs.op_call ho hw hrun (Calls.mono hsh ?_)
                      rintro e' w' ⟨c', rfl, hE, hR, hO⟩
                      cases e' with
                      | returned x => exact hQ c' x a.defers cs hE (hF.step ⟨hE, hR, hO.1, rfl, rfl⟩) hO.2
                      | panicked => exact hO.elim
                      | outgrown => exact hO.elim
                    | pan v h' ps' =>
                      right
                      simp only [onOut] at h
                      refine ⟨_, _, h, fun l Q hQ => ?_⟩
                      refine Runs.op_call ho hw hrun (Calls.mono hsh ?_)
                      rintro e' w' ⟨c', rfl, hE, hR, hO⟩
                      cases e' with
                      | returned x => exact hO.elim
                      | panicked chain => obtain ⟨h1, x, rfl, hv'⟩ := hO; exact hQ c' x hE (hF.step ⟨hE, hR, h1, rfl, rfl⟩) hv'
                      | outgrown => exact hO.elim
            · cases h
        · cases h

end
end Go.Den
