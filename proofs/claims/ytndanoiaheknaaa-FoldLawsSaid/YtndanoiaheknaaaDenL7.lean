/- The row of FoldLaws. -/
import Derived.Test.YtndanoiaheknaaaDenL6
import Derived.Test.YtndanoiaheknaaaDenLawRow
import Derived.Test.YtndanoiaheknaaaRows
set_option linter.unusedSimpArgs false
set_option linter.unusedVariables false
namespace Go.Proofs.Ytndanoiaheknaaa
open Go.Den Go.ChangeShapes Go.WideShapes Go.ChangeAt Go.RowKit
set_option maxRecDepth 100000
theorem Try.own : ownKnob Try.prog.godebug = none := by kernel_rfl
theorem Try.laidOut : laidOutB Try.prog = true := by kernel_rfl
theorem okNames : (Try.prog.funcs.toList.all fun fn => !(fn.name == "runtime.NumGoroutine")) = true := by kernel_rfl
theorem okay : Okay Try.prog where
  names := fun f fn h => by
    have := List.all_eq_true.1 okNames fn (by simpa using Array.mem_of_getElem? h)
    simpa using this
  mixed := by kernel_rfl
theorem flat2 : flatSet Try.prog [2] = true := by kernel_rfl
theorem under2 : Try.prog.underlying 2 = some (.int .i64) := by kernel_rfl
theorem agg2 : isAggD Try.prog 2 = false := by kernel_rfl
theorem typed2 {fuel : Nat} {l : List AV} (h : Typed Try.prog fuel 2 l) : ∃ n, mkA Try.prog 2 l = .int .i64 n ∧ I64 n := by
  cases fuel with
  | zero => exact h.elim
  | succ fuel =>
    unfold Typed at h
    rw [under2] at h
    obtain ⟨n, rfl, hw⟩ := h
    refine ⟨n, by simp [mkA, agg2], ?_⟩
    have h2 : IntKind.i64.min = -9223372036854775808 := by decide
    have h3 : IntKind.i64.max = 9223372036854775807 := by decide
    simp [Lit.wf, h2, h3] at hw
    unfold I64
    omega
theorem laws_law (vs : List AV) (h : TypedArgs Try.prog Try.f3.params.toList vs) : dn 41 3 vs [] .plain = some (.ret (.bool true) [] .plain) := by
  rw [Try.params3] at h
  match vs, h with
  | [x, y], h =>
    obtain ⟨⟨f1, l1, h1, rfl⟩, ⟨f2, l2, h2, rfl⟩, _⟩ := h
    obtain ⟨a, e1, ha⟩ := typed2 h1
    obtain ⟨b, e2, hb⟩ := typed2 h2
    rw [e1, e2]
    exact laws_true ha hb 0
theorem f_lifted (os : Os) (started : os.Started) (H : Type) (enc : TypeId × Value → H) :
    ReturnsInHanded {} Try.checked os 3 .any (Rows.foldLawsSpec.pre6 enc Try.prog Try.f3 Rows.foldLawsRow.domain false) (Rows.foldLawsSpec.post enc Try.prog Try.f3 false true false false) :=
  law_lifted (C := Try.checked) (tb := 4) Try.own started (by kernel_rfl) Try.func3
    (ChangeSpec.witness6 (enc := enc) (C := Try.checked) false ⟨#[], #[.int .i64 0, .int .i64 0], []⟩ 8 (by kernel_rfl) (by kernel_rfl) (by kernel_rfl) (by kernel_rfl))
    okay (den_sound okay pol0 ext_none 41) laws_law (fun t ht => ⟨[2], flat2, by rw [Try.params3] at ht; simpa using ht⟩) Try.laidOut
    (fun t ht => by rw [Try.params3] at ht; have : t = 2 := by simpa using ht
                    subst this; exact ⟨by kernel_rfl, of_decide_eq_true (by kernel_rfl)⟩) rfl
    (fun ds hl => by
      rw [Try.params3] at hl
      match ds, hl with
      | [x, y], _ => rfl) (by kernel_rfl) (by kernel_rfl)
theorem f_holds : Rows.FoldLawsSaid :=
  OpenClaim.holds_of_wide 3 Try.f3 rfl rfl rfl rfl rfl rfl rfl ⟨rfl, rfl, rfl, rfl, rfl⟩ rfl rfl rfl rfl rfl (by kernel_rfl) Try.func3 (by kernel_rfl)
    (of_decide_eq_true (by kernel_rfl)) (by unfold Func.isWrapper; first | (rw [if_pos (by decide +kernel)]; kernel_rfl) | (rw [if_neg (by decide +kernel)]; exact ⟨rfl, rfl⟩))
    (fun os started H enc _ => f_lifted os started H enc)
#print axioms f_holds
end Go.Proofs.Ytndanoiaheknaaa
