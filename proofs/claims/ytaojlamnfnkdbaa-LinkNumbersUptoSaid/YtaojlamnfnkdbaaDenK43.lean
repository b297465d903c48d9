/- The row of LinkNumbers: what it reads being of bulk at most 1048576: it returns true. -/
import Derived.Test.YtaojlamnfnkdbaaDenKn
import Derived.Test.YtaojlamnfnkdbaaDenK42e
import Derived.Test.YtaojlamnfnkdbaaDenKT
set_option linter.unusedSimpArgs false
set_option linter.unusedVariables false
set_option linter.unnecessarySimpa false
namespace Go.Proofs.Ytaojlamnfnkdbaa
open Go.Den Go.ChangeShapes Go.WideShapes Go.ChangeAt Go.RowKit
set_option maxRecDepth 100000
theorem obs_true {l : List Ob} (hl : l.length < MM) (h : ∀ o ∈ l, SmO o ∧ SmS o ∧ o.mod.length < 1000000000) : dK 4 [obs l] [] .plain = some (.ret (.bool true) [] .plain) := by
  cases l with
  | nil => exact v4e
  | cons o l => exact v4 ⟨by simp, hl, h⟩
theorem numbers_rows (xs : List AV) (M : Nat) (hM : M ≤ 1048576) (h : TypedArgs Try.prog Try.f4.params.toList M xs) : dK 4 xs [] .plain = some (.ret (.bool true) [] .plain) := by
  rw [Try.params4] at h
  match xs, h with
  | [a0], ⟨b0, M0, ⟨f0, l0, ht0, ha0⟩, _, hb0⟩ =>
    subst ha0
    obtain ⟨l, rfl, h1, h2⟩ := tSl Try.underlying22 (z := 4) (by kernel_rfl) obR tOb ht0 (by omega)
    have e1 : ∀ l, mkA Try.prog 22 [slL 4 .no obR l] = obs l := fun l => by kernel_rfl
    rw [e1]
    exact obs_true (by simp only [MM]; omega) h2

theorem numbers_lifted (os : Os) (started : os.Started) (H : Type) (enc : TypeId × Value → H) (F : Stop.Interp) :
    ReturnsInHanded {} Try.checked os 4 .any ((Rows.OpenSpec.upto Rows.linkNumbersSpec).pre6 enc Try.prog Try.f4 Rows.linkNumbersUptoRow.domain false) (((Rows.OpenSpec.upto Rows.linkNumbersSpec).at F).post enc Try.prog Try.f4 false true false false) :=
  law_upto (C := Try.checked) (tb := 4) bulkB rfl small Try.own started (by kernel_rfl) Try.func4
    (OpenSpec.witness (enc := enc) (C := Try.checked) (s := Rows.OpenSpec.upto Rows.linkNumbersSpec) (k := Rows.uptoSmall) rfl false ⟨#[], #[.slice none 0 0], []⟩ 8 (by kernel_rfl) (by kernel_rfl) (by kernel_rfl)
      (x := ([.nil], [], [])) (by kernel_rfl) rfl (by kernel_rfl))
    okay (denA_sound okay polK ext0_sound) numbers_rows (fun t ht => ⟨_, flatX, by rw [Try.params4] at ht; simp at ht; rcases ht with rfl; simp⟩) Try.laidOut
    (fun t ht => by rw [Try.params4] at ht; simp at ht; rcases ht with rfl
                    exact ⟨by kernel_rfl, of_decide_eq_true (by kernel_rfl)⟩) rfl
    (fun ds hl => by
      rw [Try.params4] at hl
      match ds, hl with
      | [x], _ => rfl) (by kernel_rfl) (by kernel_rfl)
theorem numbers_holds : Rows.LinkNumbersUptoSaid :=
  OpenClaim.holds_of_cond 4 Try.f4 rfl rfl rfl rfl rfl rfl rfl ⟨rfl, rfl, rfl, rfl, rfl⟩ rfl rfl rfl rfl rfl (by kernel_rfl) Try.func4 (by kernel_rfl)
    (of_decide_eq_true (by kernel_rfl)) (by unfold Func.isWrapper; first | (rw [if_pos (by decide +kernel)]; kernel_rfl) | (rw [if_neg (by decide +kernel)]; exact ⟨rfl, rfl⟩))
    (fun os started H enc _ F => numbers_lifted os started H enc F)
#print axioms numbers_holds
end Go.Proofs.Ytaojlamnfnkdbaa
