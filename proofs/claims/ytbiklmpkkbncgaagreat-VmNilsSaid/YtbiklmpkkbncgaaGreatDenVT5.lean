/- The row of VmNils: whatever the input: it returns true. -/
import Derived.Test.YtbiklmpkkbncgaaGreatDenVT4
import Derived.Test.YtbiklmpkkbncgaaGreatDenLawRow2
import Derived.Test.YtbiklmpkkbncgaaGreatRows
set_option linter.unusedSimpArgs false
set_option linter.unusedVariables false
set_option linter.unnecessarySimpa false
namespace Go.Proofs.YtbiklmpkkbncgaaGreat
open Go.Den Go.ChangeShapes Go.WideShapes Go.ChangeAt Go.RowKit
set_option maxRecDepth 100000
theorem Tryz.own : ownKnob Tryz.prog.godebug = none := by kernel_rfl
theorem Tryz.laidOut : laidOutB Tryz.prog = true := by kernel_rfl
theorem okNames : (Tryz.prog.funcs.toList.all fun fn => !(fn.name == "runtime.NumGoroutine")) = true := by kernel_rfl
theorem okay : Okay Tryz.prog where
  names := fun f fn h => by
    have := List.all_eq_true.1 okNames fn (by simpa using Array.mem_of_getElem? h)
    simpa using this
  mixed := by kernel_rfl
theorem bulkB {H : Type} : BulkB (H := H) Rows.uptoBulk Rows.uptoBulkAll where
  one := fun d => by
    cases d with
    | lit l => cases l <;> simp [Rows.uptoBulk]
    | nil => simp [Rows.uptoBulk]
    | ptr d => simp [Rows.uptoBulk]
    | slice elems spare => simp only [Rows.uptoBulk]; omega
    | agg parts => simp [Rows.uptoBulk]
    | iface t d => simp [Rows.uptoBulk]
    | map entries => simp [Rows.uptoBulk]
    | held h => simp [Rows.uptoBulk]
  str := fun s => by simp [Rows.uptoBulk]
  slice := fun es sp => by simp only [Rows.uptoBulk]; omega
  agg := fun ps => by simp [Rows.uptoBulk]
  nil := by simp [Rows.uptoBulkAll]
  cons := fun d l => by simp [Rows.uptoBulkAll]
theorem small {H : Type} (ds : List (DataW H)) (h : Rows.uptoSmall H ds = true) : Rows.uptoBulkAll ds ≤ 1048576 := of_decide_eq_true h


section
variable {fuel b : Nat} {p : List AV}
theorem tInt (h : Typed Tryz.prog fuel 3 b p) : ∃ n, p = [.int .i64 n] := by
  cases fuel with
  | zero => exact h.elim
  | succ fuel => unfold Typed at h; rw [Tryz.underlying3] at h; obtain ⟨s, rfl, _⟩ := h; exact ⟨s, rfl⟩
end
theorem flatV : flatSet Tryz.prog [3] = true := by kernel_rfl
theorem nils_law (xs : List AV) (M : Nat) (h : TypedArgs Tryz.prog Tryz.f5.params.toList M xs) : dV 5 xs [] .plain = some (.ret (.bool true) [] .plain) := by
  rw [Tryz.params5] at h
  match xs, h with
  | [a0], ⟨b0, M0, ⟨f0, l0, ht0, ha0⟩, _, hb0⟩ =>
    subst ha0
    obtain ⟨n, rfl⟩ := tInt ht0
    have e3 : ∀ n, mkA Tryz.prog 3 [.int .i64 n] = .int .i64 n := fun n => by kernel_rfl
    rw [e3]
    exact vNils n
theorem extV_sound : CallSound Tryz.prog (extCall extV) := by
  intro f args h ps out e
  unfold extCall extV at e
  cases e
theorem nils_lifted (os : Os) (started : os.Started) (H : Type) (enc : TypeId × Value → H) :
    ReturnsInHanded {} Tryz.checked os 5 .any (Rows.vmNilsSpec.pre6 enc Tryz.prog Tryz.f5 Rows.vmNilsRow.domain false) (Rows.vmNilsSpec.post enc Tryz.prog Tryz.f5 false true false false) :=
  law_lifted (C := Tryz.checked) (tb := 4) bulkB Tryz.own started (by kernel_rfl) Tryz.func5
    (ChangeSpec.witness6 (enc := enc) (C := Tryz.checked) false ⟨#[], #[.int .i64 0], []⟩ 8 (by kernel_rfl) (by kernel_rfl) (by kernel_rfl) (by kernel_rfl))
    okay (denA_sound okay polV extV_sound) nils_law (fun t ht => ⟨_, flatV, by rw [Tryz.params5] at ht; simp at ht; rcases ht with rfl; simp⟩) Tryz.laidOut
    (fun t ht => by rw [Tryz.params5] at ht; simp at ht; rcases ht with rfl; exact ⟨by kernel_rfl, of_decide_eq_true (by kernel_rfl)⟩) rfl
    (fun ds hl => by
      rw [Tryz.params5] at hl
      match ds, hl with
      | [x], _ => rfl) (by kernel_rfl) (by kernel_rfl)
theorem nils_holds : Rows.VmNilsSaid :=
  OpenClaim.holds_of_wide 5 Tryz.f5 rfl rfl rfl rfl rfl rfl rfl ⟨rfl, rfl, rfl, rfl, rfl⟩ rfl rfl rfl rfl rfl (by kernel_rfl) Tryz.func5 (by kernel_rfl)
    (of_decide_eq_true (by kernel_rfl)) (by unfold Func.isWrapper; first | (rw [if_pos (by decide +kernel)]; kernel_rfl) | (rw [if_neg (by decide +kernel)]; exact ⟨rfl, rfl⟩))
    (fun os started H enc _ => nils_lifted os started H enc)
#print axioms nils_holds
end Go.Proofs.YtbiklmpkkbncgaaGreat
