/- Vm: a table of the example alone. -/
import Derived.Test.YtbiklmpkkbncgaaGreatDenVT2
set_option linter.unusedSimpArgs false
set_option linter.unusedVariables false
set_option linter.unnecessarySimpa false
namespace Go.Proofs
open Go.Den
def tsV (f : FuncId) : Bool := f == 8
def tabV : CallK := fun f args h ps K => match f, args, h, ps with
  | 8, [], [], .plain => K (.ret (.bool true) [] .plain)
  | _, _, _, _ => none
theorem tabV_le : CallLeK tabV dV := by
  intro f args h ps K out e
  unfold tabV at e
  split at e
  · exact ⟨_, e, vAlive⟩
  · cases e
end Go.Proofs
