/- The row of FoldOperators: whatever the input: it returns true. -/
import Derived.Test.YtndanoiaheknaaaGreatDenOpG
import Derived.Test.YtndanoiaheknaaaGreatDenLawRow2
import Derived.Test.YtndanoiaheknaaaGreatRows
set_option linter.unusedSimpArgs false
set_option linter.unusedVariables false
namespace Go.Proofs.YtndanoiaheknaaaGreat
open Go.Den Go.ChangeShapes Go.WideShapes Go.ChangeAt Go.RowKit
set_option maxRecDepth 100000
theorem Tryz.own : ownKnob Tryz.prog.godebug = none := by kernel_rfl
theorem Tryz.laidOut : laidOutB Tryz.prog = true := by kernel_rfl
theorem okNames : (Tryz.prog.funcs.toList.all fun fn => !(fn.name == "runtime.NumGoroutine")) = true := by kernel_rfl
theorem okay : Okay Tryz.prog where
  names := fun f fn h => by
    have := List.all_eq_true.1 okNames fn (by simpa using Array.mem_of_getElem? h)
    simpa using this
  mixed := by kernel_rfl
theorem bulkB {H : Type} : BulkB (H := H) Rows.uptoBulk Rows.uptoBulkAll where
  one := fun d => by
    cases d with
    | lit l => cases l <;> simp [Rows.uptoBulk]
    | nil => simp [Rows.uptoBulk]
    | ptr d => simp [Rows.uptoBulk]
    | slice elems spare => simp only [Rows.uptoBulk]; omega
    | agg parts => simp [Rows.uptoBulk]
    | iface t d => simp [Rows.uptoBulk]
    | map entries => simp [Rows.uptoBulk]
    | held h => simp [Rows.uptoBulk]
  str := fun s => by simp [Rows.uptoBulk]
  slice := fun es sp => by simp only [Rows.uptoBulk]; omega
  agg := fun ps => by simp [Rows.uptoBulk]
  nil := by simp [Rows.uptoBulkAll]
  cons := fun d l => by simp [Rows.uptoBulkAll]
theorem small {H : Type} (ds : List (DataW H)) (h : Rows.uptoSmall H ds = true) : Rows.uptoBulkAll ds ≤ 1048576 := of_decide_eq_true h


section
variable {fuel b : Nat} {p : List AV}
theorem tInt (h : Typed Tryz.prog fuel 3 b p) : ∃ n, p = [.int .i64 n] := by
  cases fuel with
  | zero => exact h.elim
  | succ fuel => unfold Typed at h; rw [Tryz.underlying3] at h; obtain ⟨s, rfl, _⟩ := h; exact ⟨s, rfl⟩
theorem tU64 (h : Typed Tryz.prog fuel 22 b p) : ∃ n, p = [.int .u64 n] ∧ U64 n := by
  cases fuel with
  | zero => exact h.elim
  | succ fuel =>
    unfold Typed at h
    rw [Tryz.underlying22] at h
    obtain ⟨s, rfl, hw⟩ := h
    refine ⟨s, rfl, ?_⟩
    have h2 : IntKind.u64.min = 0 := by decide
    have h3 : IntKind.u64.max = 18446744073709551615 := by decide
    simp [Lit.wf, h2, h3] at hw
    unfold U64
    omega
theorem tVal (h : Typed Tryz.prog fuel 24 b p) : ∃ t v, p = [.int .i64 t, .int .u64 v] ∧ U64 v := by
  cases fuel with
  | zero => exact h.elim
  | succ fuel =>
    unfold Typed at h
    rw [Tryz.underlying24] at h
    obtain ⟨parts, bs, rfl, hp, hb, _, h⟩ := h
    match parts, hp, bs, hb with
    | [p0, p1], _, [b0, b1], _ =>
      obtain ⟨t, rfl⟩ := tInt (h 0 _ _ _ rfl rfl rfl)
      obtain ⟨v, rfl, hv⟩ := tU64 (h 1 _ _ _ rfl rfl rfl)
      exact ⟨t, v, rfl, hv⟩
end
theorem flatZ : flatSet Tryz.prog [3, 24, 22] = true := by kernel_rfl
theorem operators_law (xs : List AV) (M : Nat) (h : TypedArgs Tryz.prog Tryz.f3.params.toList M xs) : dZ 3 xs [] .plain = some (.ret (.bool true) [] .plain) := by
  rw [Tryz.params3] at h
  match xs, h with
  | [a0, a1, a2, a3], ⟨b0, M0, ⟨f0, l0, ht0, ha0⟩, ⟨b1, M1, ⟨f1, l1, ht1, ha1⟩, ⟨b2, M2, ⟨f2, l2, ht2, ha2⟩, ⟨b3, M3, ⟨f3, l3, ht3, ha3⟩, _, hb3⟩, hb2⟩, hb1⟩, hb0⟩ =>
    subst ha0; subst ha1; subst ha2; subst ha3
    obtain ⟨op, rfl⟩ := tInt ht0
    obtain ⟨t, a, rfl, ha⟩ := tVal ht1
    obtain ⟨q, b, rfl, hb⟩ := tVal ht2
    obtain ⟨tr, rfl⟩ := tInt ht3
    have e3 : ∀ n, mkA Tryz.prog 3 [.int .i64 n] = .int .i64 n := fun n => by kernel_rfl
    have e24 : ∀ t v, mkA Tryz.prog 24 [.int .i64 t, .int .u64 v] = vl t v := fun t v => by kernel_rfl
    rw [e3, e3, e24, e24]
    exact operators_true ha hb
theorem operators_lifted (os : Os) (started : os.Started) (H : Type) (enc : TypeId × Value → H) :
    ReturnsInHanded {} Tryz.checked os 3 .any (Rows.foldOperatorsSpec.pre6 enc Tryz.prog Tryz.f3 Rows.foldOperatorsRow.domain false) (Rows.foldOperatorsSpec.post enc Tryz.prog Tryz.f3 false true false false) :=
  law_lifted (C := Tryz.checked) (tb := 4) bulkB Tryz.own started (by kernel_rfl) Tryz.func3
    (ChangeSpec.witness6 (enc := enc) (C := Tryz.checked) false ⟨#[], #[.int .i64 0, .agg #[.int .i64 0, .int .u64 0], .agg #[.int .i64 0, .int .u64 0], .int .i64 0], []⟩ 8 (by kernel_rfl) (by kernel_rfl) (by kernel_rfl) (by kernel_rfl))
    okay (denA_sound okay polZ extZ_sound) operators_law (fun t ht => ⟨_, flatZ, by rw [Tryz.params3] at ht; simp at ht; rcases ht with rfl | rfl | rfl <;> simp⟩) Tryz.laidOut
    (fun t ht => by rw [Tryz.params3] at ht; simp at ht; rcases ht with rfl | rfl | rfl <;> exact ⟨by kernel_rfl, of_decide_eq_true (by kernel_rfl)⟩) rfl
    (fun ds hl => by
      rw [Tryz.params3] at hl
      match ds, hl with
      | [x, y, z, w], _ => rfl) (by kernel_rfl) (by kernel_rfl)
theorem operators_holds : Rows.FoldOperatorsSaid :=
  OpenClaim.holds_of_wide 3 Tryz.f3 rfl rfl rfl rfl rfl rfl rfl ⟨rfl, rfl, rfl, rfl, rfl⟩ rfl rfl rfl rfl rfl (by kernel_rfl) Tryz.func3 (by kernel_rfl)
    (of_decide_eq_true (by kernel_rfl)) (by unfold Func.isWrapper; first | (rw [if_pos (by decide +kernel)]; kernel_rfl) | (rw [if_neg (by decide +kernel)]; exact ⟨rfl, rfl⟩))
    (fun os started H enc _ => operators_lifted os started H enc)
#print axioms operators_holds
end Go.Proofs.YtndanoiaheknaaaGreat
