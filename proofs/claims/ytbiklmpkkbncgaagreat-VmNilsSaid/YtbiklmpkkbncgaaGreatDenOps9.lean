/- 'append': what it comes to. -/
import Derived.Test.YtbiklmpkkbncgaaGreatDenOps8
set_option linter.unusedSimpArgs false
set_option linter.unusedVariables false
set_option linter.unnecessarySimpa false
namespace Go.Den
open Go

section
variable {P : Program} {c : Cx} {s : Hs} {ρ : Operand → Value}

theorem growBy_le (need : Nat) : ∀ (k c : Nat), Builtin.growBy need k c ≤ max c (need + need / 4 + 192) := by
  intro k
  induction k with
  | zero => intro c; simp [Builtin.growBy]; omega
  | succ k ih =>
    intro c
    simp only [Builtin.growBy]
    split
    · omega
    · have := ih (c + (c + 768) / 4)
      omega

theorem nextslicecap_le {need cap : Nat} (h : cap < need) : Builtin.nextslicecap need cap ≤ 3 * need := by
  unfold Builtin.nextslicecap
  split
  · omega
  · split
    · omega
    · have := growBy_le need 4 cap
      omega

/-- what 'append' does: within the room behind the slice, or in new memory -/
theorem run_append {ts tx el ex : TypeId} {ty : TypeId} {base : Option Addr} {n cap m z : Nat} {g : Fin m → Row} {x : Value} {vals olds : List Value}
    (hts : P.underlying ts = some (.slice el)) (htx : P.underlying tx = some (.slice ex)) (hz : sized P el z = true) (hsrc : Src P c z m g x vals)
    (hold : ∀ w : World, (∀ a, w.cell? a = c.w.cell? a) → (Builtin.firstCells z n (.slice base n cap)).run P w = .ok olds.toArray w)
    (hroom : roomy (n + m) (P.bytesOf el) = true) (hzero : ∃ zs, zeroT P el = some zs) :
    (n + m ≤ cap → ∀ w', (match base with
        | some a => (storeCells (a.add (n * z)) vals).run P c.w = .ok () w'
        | none => w' = c.w) → (Builtin.append_ #[ts, tx] ty #[.slice base n cap, x]).run P c.w = .ok (.slice base (n + m) cap) w') ∧
    (¬ n + m ≤ cap → ∃ (newCap : Nat) (rest : List Value), n + m ≤ newCap ∧ rest.length = (newCap - (n + m)) * z ∧
      (Builtin.append_ #[ts, tx] ty #[.slice base n cap, x]).run P c.w = .ok (.slice (some ⟨c.w.heap.size, 0, none⟩) (n + m) newCap) (c.w.drew.alloc (.cells (olds.toArray ++ vals.toArray ++ rest.toArray) el))) := by
  obtain ⟨zs, hzs⟩ := hzero
  obtain ⟨zv, hzv, hzl, hzsz, _, _⟩ := zeroT_sound (c := c) (w := c.w) hzs
  have hinfo : ∃ i, P.info? el = some i := by
    unfold sized at hz
    cases hi : P.info? el with
    | none => rw [hi] at hz; cases hz
    | some i => exact ⟨i, rfl⟩
  obtain ⟨ti, hti⟩ := hinfo
  have hbytes : ti.bytes = P.bytesOf el := by simp [Program.bytesOf, hti]
  have hzc : zv.cells.size = z := by
    unfold sized at hz
    rw [hti] at hz
    simp only [beq_iff_eq] at hz
    rw [hzsz, hzl, Program.cellsOf, hti]
    simpa using hz
  simp only [roomy, Bool.and_eq_true, decide_eq_true_eq] at hroom
  have hzv' : ∀ w, (zeroValue el).run P w = .ok zv w := by
    intro w
    have : ti.zero = some zv := by
      cases hz0 : ti.zero with
      | none => simp [zeroValue, run_typeInfo hti, hz0] at hzv
      | some v => simp [zeroValue, run_typeInfo hti, hz0] at hzv; rw [hzv]
    simp [zeroValue, run_typeInfo hti, this]
  refine ⟨fun hfit w' hw' => ?_, fun hgrow => ?_⟩
  · simp only [Builtin.append_, List.getElem?_toArray, List.getElem?_cons_zero, List.getElem?_cons_succ, Sem.run_bind, run_underlying hts, run_underlying htx, Result.andThen_ok, run_sized hz, Sem.run_pure,
      Bool.false_eq_true, if_false, hsrc.lenOf, Bool.not_false, if_true]
    rw [if_pos hfit]
    simp only [Sem.run_bind, hsrc.cells c.w (fun _ => rfl), Result.andThen_ok]
    cases base with
    | none => simp only at hw'; subst hw'; simp
    | some a => simp only at hw'; simp [hw']
  · have hcap := nextslicecap_le (need := n + m) (cap := cap) (by omega)
    have h48 : ¬ (Builtin.nextslicecap (n + m) cap * ti.bytes > 2 ^ 48) := by
      have : Builtin.nextslicecap (n + m) cap * ti.bytes ≤ 3 * (n + m) * ti.bytes := Nat.mul_le_mul_right _ hcap
      rw [hbytes] at this ⊢
      have e : 3 * (n + m) * P.bytesOf el = 3 * ((n + m) * P.bytesOf el) := by rw [Nat.mul_assoc]
      omega
    have hdrew : ∀ a, c.w.drew.cell? a = c.w.cell? a := fun a => rfl
    refine ⟨(Question.appendCap (n + m) cap el).cut (c.w.tape c.w.drawn (.appendCap (n + m) cap el)), (Builtin.zeroCells zv.cells ((Question.appendCap (n + m) cap el).cut (c.w.tape c.w.drawn (.appendCap (n + m) cap el)) - (n + m))).toList, ?_, ?_, ?_⟩
    · simp [Question.cut]
    · simp [Builtin.zeroCells, hzc]
    · generalize hC : (Question.appendCap (n + m) cap el).cut (c.w.tape c.w.drawn (.appendCap (n + m) cap el)) = C
      simp only [Builtin.append_, List.getElem?_toArray, List.getElem?_cons_zero, List.getElem?_cons_succ, Sem.run_bind, run_underlying hts, run_underlying htx, Result.andThen_ok, run_sized hz, Sem.run_pure,
        Bool.false_eq_true, if_false, hsrc.lenOf, Bool.not_false, if_true]
      rw [if_neg hgrow]
      simp only [Sem.run_bind, run_typeInfo hti, Result.andThen_ok]
      rw [if_neg (by rintro ⟨h, _⟩; have : IntKind.i64.max = 9223372036854775807 := by decide
                     rw [this] at h; omega)]
      simp only [Sem.run_bind, run_typeInfo hti, Result.andThen_ok]
      rw [if_neg h48]
      have hch : (choose (Question.appendCap (n + m) cap el)).run P c.w = .ok C c.w.drew := by
        rw [run_choose, if_neg (by simp [Question.forced]), hC]
        rfl
      simp only [Sem.run_bind, hch, run_typeInfo hti, Result.andThen_ok, run_askRoom, hold c.w.drew hdrew, hsrc.cells c.w.drew hdrew, hzv', newRow, run_newObj, Sem.run_pure, Array.toArray_toList]
      rfl

end
end Go.Den
