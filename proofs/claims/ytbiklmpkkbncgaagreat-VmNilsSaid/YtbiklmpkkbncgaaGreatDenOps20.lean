/- The theorem: what the second reading says of a call is so. -/
import Derived.Test.YtbiklmpkkbncgaaGreatDenOps19
set_option linter.unusedSimpArgs false
set_option linter.unusedVariables false
set_option linter.unnecessarySimpa false
namespace Go.Den
open Go

def extCall (ext : FuncId → Option CallO) : CallO := fun f args h ps => match ext f with
  | some g => g f args h ps
  | none => none

theorem den_sound {P : Program} (hok : Okay P) (pol : Pol) {ext : FuncId → Option CallO} (hext : CallSound P (extCall ext)) : ∀ k, CallSound P (den P pol ext k) := by
  intro k
  induction k with
  | zero => intro f args h ps out e; cases e
  | succ k ih =>
    intro f args h ps out e
    simp only [den] at e
    cases he : ext f with
    | some g =>
      rw [he] at e
      exact hext f args h ps out (by simp only [extCall, he]; exact e)
    | none =>
      rw [he] at e
      exact bodyD_sound hok ih pol k f args h ps out e

theorem ext_none {P : Program} : CallSound P (extCall fun _ => none) := fun _ _ _ _ _ e => by cases e

end Go.Den
