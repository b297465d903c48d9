/- Vm: what is chosen for the reading. -/
import Derived.Test.YtbiklmpkkbncgaaGreatDenKit
import Derived.Test.YtbiklmpkkbncgaaGreatDenSym
import Derived.Test.YtbiklmpkkbncgaaGreatProg
set_option linter.unusedSimpArgs false
set_option linter.unusedVariables false
set_option linter.unnecessarySimpa false
namespace Go.Proofs
open Go.Den
def extV : FuncId → Option CallO := fun _ => none
def polV : Pol where
  full := fun f => !(f == 5 || f == 8)
  grow := fun _ _ => true
  keep := fun _ => true
  prom := fun _ _ => []
  dead := fun _ _ => 0
  hold := fun _ => true
noncomputable abbrev dV : CallO := denA Tryz.prog polV extV
end Go.Proofs
