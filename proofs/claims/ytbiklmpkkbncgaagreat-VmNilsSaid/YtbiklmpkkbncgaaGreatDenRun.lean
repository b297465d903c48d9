/- What the machine's small operations come to, by a type's own row. -/
import Derived.Test.YtbiklmpkkbncgaaGreatDenMem
import Derived.Laws.Sem
set_option linter.unusedSimpArgs false
set_option linter.unusedVariables false
set_option linter.unnecessarySimpa false
namespace Go.Den
open Go

section
variable {P : Program} {w : World} {t : TypeId} {d : TypeDesc}

theorem run_underlying (h : P.underlying t = some d) : (underlying t).run P w = .ok d w := by simp [underlying, h]

theorem info_of_underlying (h : P.underlying t = some d) : ∃ i, P.info? t = some i := by
  unfold Program.underlying at h
  cases hi : P.info? t with
  | none => rw [hi] at h; cases h
  | some i => exact ⟨i, rfl⟩

theorem run_typeInfo {i : TypeInfo} (h : P.info? t = some i) : (typeInfo t).run P w = .ok i w := by simp [typeInfo, h]

theorem run_sizeOf (h : P.underlying t = some d) : (sizeOf t).run P w = .ok (P.cellsOf t) w := by
  obtain ⟨i, hi⟩ := info_of_underlying h
  simp [sizeOf, run_typeInfo hi, Program.cellsOf, hi]

theorem run_isAgg (h : P.underlying t = some d) : (isAgg t).run P w = .ok (aggDesc d) w := by
  simp only [isAgg, Sem.run_bind, run_underlying h, Result.andThen_ok]
  cases d <;> rfl

theorem add_addr (b o j : Nat) : (⟨b, o, none⟩ : Addr).add j = ⟨b, o + j, none⟩ := by
  unfold Addr.add
  split
  · subst j; rfl
  · rfl

theorem run_loadCellsFrom {b o : Nat} {val : Nat → Value} : ∀ (n i : Nat) (acc : Array Value), (∀ j, i ≤ j → j < i + n → w.cell? ⟨b, o + j, none⟩ = some (val j)) →
    (loadCellsFrom ⟨b, o, none⟩ i n acc).run P w = .ok (acc ++ ((List.range' i n).map val).toArray) w := by
  intro n
  induction n with
  | zero => intro i acc _; simp [loadCellsFrom]
  | succ n ih =>
    intro i acc h
    have h0 : w.cell? ⟨b, o + i, none⟩ = some (val i) := h i (Nat.le_refl _) (by omega)
    simp only [loadCellsFrom, Sem.run_bind, run_load, add_addr, h0, Result.andThen_ok]
    rw [ih (i + 1) _ fun j h1 h2 => h j (by omega) (by omega)]
    simp [List.range'_succ]

theorem run_loadCells {b o n : Nat} {val : Nat → Value} (h : ∀ j, j < n → w.cell? ⟨b, o + j, none⟩ = some (val j)) :
    (loadCells ⟨b, o, none⟩ n).run P w = .ok ((List.range n).map val).toArray w := by
  have := run_loadCellsFrom (P := P) (w := w) (b := b) (o := o) (val := val) n 0 #[] fun j _ hj => h j (by omega)
  simpa [loadCells, List.range_eq_range'] using this

/-- a value of a type, made of cells -/
theorem run_loadVar {c : Cx} {cs : List AV} {v : AV} {b o : Nat} {val : Nat → Value} (hm : mkVal P t cs = some v) (hl : cs.length = P.cellsOf t)
    (hc : ∀ j, j < P.cellsOf t → c.w.cell? ⟨b, o + j, none⟩ = some (val j)) (ha : ∀ u ∈ cs, AtomA u) (hv : ∀ (j : Nat) (u : AV), cs[j]? = some u → VR c u (val j)) :
    ∃ x, (loadVar t ⟨b, o, none⟩).run P c.w = .ok x c.w ∧ VR c v x := by
  unfold mkVal at hm
  cases hd : P.underlying t with
  | none => rw [hd] at hm; cases hm
  | some d =>
    rw [hd] at hm
    simp only at hm
    cases hg : aggDesc d with
    | true =>
      rw [hg] at hm
      simp only [cond_true, Option.some.injEq] at hm
      subst hm
      refine ⟨.agg ((List.range (P.cellsOf t)).map val).toArray, ?_, .agg _ _ (by simp [hl]) ha fun j u x e1 e2 => ?_⟩
      · simp only [loadVar, Sem.run_bind, run_isAgg hd, hg, Result.andThen_ok, if_true, run_sizeOf hd, run_loadCells hc, Sem.run_pure]
      · have hj : j < P.cellsOf t := by rw [← hl]; exact (List.getElem?_eq_some_iff.1 e1).1
        simp [hj] at e2
        subst e2
        exact hv j u e1
    | false =>
      rw [hg] at hm
      simp only [cond_false] at hm
      match cs, hm, hl, hv with
      | [u], hm, hl, hv =>
        simp only [Option.some.injEq] at hm
        subst hm
        have h0 := hc 0 (by simp at hl; omega)
        refine ⟨val 0, ?_, hv 0 u rfl⟩
        rw [Nat.add_zero] at h0
        simp [loadVar, run_isAgg hd, hg, h0]

/-- a load, by what the address reads as -/
theorem loadD_sound {c : Cx} (hr : RelH c) {a : AV} {x : Value} {z : Nat} {cs : List AV} (h : loadD c.h a z = some cs) (ha : VR c a x) :
    ∃ (b o : Nat) (val : Nat → Value), x = .pointer (some ⟨b, o, none⟩) ∧ cs.length = z ∧ (∀ j, j < z → c.w.cell? ⟨b, o + j, none⟩ = some (val j)) ∧ (∀ u ∈ cs, AtomA u) ∧
      (∀ (j : Nat) (u : AV), cs[j]? = some u → VR c u (val j)) := by
  cases a with
  | ptr i gen row off =>
    simp only [loadD] at h
    cases ho : c.h[i]? with
    | none => rw [ho] at h; cases h
    | some o =>
      rw [ho] at h
      have hgi : i < c.g.length := by rw [hr.len]; exact (List.getElem?_eq_some_iff.1 ho).1
      have hg : c.g[i]? = some c.g[i] := List.getElem?_eq_getElem hgi
      generalize c.g[i] = gh at hg
      have hO := hr.obj i o gh ho hg
      cases o with
      | var l =>
        simp only at h
        cases hcond : (gen == 0 && row == 0 && decide (off + z ≤ l.length)) with
        | false => rw [hcond] at h; cases h
        | true =>
          rw [hcond] at h
          simp only [cond_true, Option.some.injEq] at h
          simp only [Bool.and_eq_true, beq_iff_eq, decide_eq_true_eq] at hcond
          obtain ⟨⟨rfl, rfl⟩, hle⟩ := hcond
          cases gh with
          | blk b =>
            obtain ⟨arr, ty, hb, hs, hA, hV⟩ := hO
            cases ha with
            | ptr _ _ _ _ _ _ _ hx =>
              have e := hx b off (by simp [Cx.adr, ho, hg])
              subst e
              have harr : ∀ j, j < z → ∃ v, arr[off + j]? = some v := fun j hj => ⟨arr[off + j]'(by omega), by simp [show off + j < arr.size from by omega]⟩
              refine ⟨b, off, fun j => arr.getD (off + j) undef, rfl, ?_, ?_, ?_, ?_⟩
              · subst h; simp; omega
              · intro j hj
                obtain ⟨v, hv⟩ := harr j hj
                simp [World.cell?, hb, Array.getD_eq_getD_getElem?, hv]
              · intro u hu; subst h; exact hA u (List.mem_of_mem_drop (List.mem_of_mem_take hu))
              · intro j u e
                subst h
                have hj : j < z := by
                  have := (List.getElem?_eq_some_iff.1 e).1
                  simp at this; omega
                rw [List.getElem?_take_of_lt hj, List.getElem?_drop] at e
                obtain ⟨v, hv⟩ := harr j hj
                simp only [Array.getD_eq_getD_getElem?, hv, Option.getD_some]
                exact hV _ _ _ e hv
          | none => exact hO.elim
          | tk => exact hO.elim
      | arr z' gen' n f =>
        simp only at h
        split at h
        · rename_i hrow
          cases hcond : (gen == gen' && decide (off + z ≤ (f ⟨row, hrow⟩).length)) with
          | false => rw [hcond] at h; cases h
          | true =>
            rw [hcond] at h
            simp only [cond_true, Option.some.injEq] at h
            simp only [Bool.and_eq_true, beq_iff_eq, decide_eq_true_eq] at hcond
            obtain ⟨rfl, hle⟩ := hcond
            cases gh with
            | blk b =>
              obtain ⟨arr, ty, hb, hs, hz, hA, hV⟩ := hO
              cases ha with
              | ptr _ _ _ _ _ _ _ hx =>
                have e := hx b (row * z' + off) (by simp [Cx.adr, ho, hg])
                subst e
                rw [hz] at hle
                have hbound : row * z' + z' ≤ n * z' := by
                  have : (row + 1) * z' ≤ n * z' := Nat.mul_le_mul_right _ hrow
                  rw [Nat.add_mul] at this; omega
                have harr : ∀ j, j < z → ∃ v, arr[row * z' + off + j]? = some v := fun j hj =>
                  ⟨arr[row * z' + off + j]'(by omega), by simp [show row * z' + off + j < arr.size from by omega]⟩
                refine ⟨b, row * z' + off, fun j => arr.getD (row * z' + off + j) undef, rfl, ?_, ?_, ?_, ?_⟩
                · subst h; simp [hz]; omega
                · intro j hj
                  obtain ⟨v, hv⟩ := harr j hj
                  simp [World.cell?, hb, Array.getD_eq_getD_getElem?, hv]
                · intro u hu; subst h; exact hA _ u (List.mem_of_mem_drop (List.mem_of_mem_take hu))
                · intro j u e
                  subst h
                  have hj : j < z := by
                    have := (List.getElem?_eq_some_iff.1 e).1
                    simp at this; omega
                  rw [List.getElem?_take_of_lt hj, List.getElem?_drop] at e
                  obtain ⟨v, hv⟩ := harr j hj
                  simp only [Array.getD_eq_getD_getElem?, hv, Option.getD_some]
                  exact hV ⟨row, hrow⟩ (off + j) u v e (by rw [← Nat.add_assoc]; exact hv)
            | none => exact hO.elim
            | tk => exact hO.elim
        · cases h
      | dead => cases h
      | unborn => cases h
      | tok => cases h
      | map => cases h
      | sit => cases h
  | pp row off =>
    simp only [loadD] at h
    cases hcond : decide (off + z ≤ row.length) with
    | false => rw [hcond] at h; cases h
    | true =>
      rw [hcond] at h
      simp only [cond_true, Option.some.injEq] at h
      simp only [decide_eq_true_eq] at hcond
      cases ha with
      | pp _ _ b o val hp hc hv =>
        refine ⟨b, o + off, fun j => val (off + j), rfl, ?_, ?_, ?_, ?_⟩
        · subst h; simp; omega
        · intro j hj; rw [Nat.add_assoc]; exact (hc (off + j) (by omega)).2
        · intro u hu; subst h; exact (hp u (List.mem_of_mem_drop (List.mem_of_mem_take hu))).2
        · intro j u e
          subst h
          have hj : j < z := by
            have := (List.getElem?_eq_some_iff.1 e).1
            simp at this; omega
          rw [List.getElem?_take_of_lt hj, List.getElem?_drop] at e
          exact hv _ _ e
  | _ => simp [loadD] at h

end
end Go.Den
