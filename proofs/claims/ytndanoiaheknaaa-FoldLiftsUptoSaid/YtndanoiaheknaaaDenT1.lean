/- A part of the second reading: contracts of functions. -/
import Derived.Test.YtndanoiaheknaaaDenDen
import Derived.Test.YtndanoiaheknaaaProg
import Derived.KernelRfl
set_option linter.unusedSimpArgs false
set_option linter.unusedVariables false
namespace Go.Proofs
open Go.Den
def pol0 : Pol := { full := fun _ => false, grow := fun _ _ => false, keep := fun _ => true, prom := fun _ _ => [], dead := fun _ _ => 0 }
def ext0 : FuncId → Option CallO := fun _ => none
