/- Vm: the example. -/
import Derived.Test.YtbiklmpkkbncgaaGreatDenVT1
set_option linter.unusedSimpArgs false
set_option linter.unusedVariables false
set_option linter.unnecessarySimpa false
namespace Go.Proofs
open Go.Den
set_option maxRecDepth 100000
theorem alive_den : den Tryz.prog polV extV 300 8 [] [] .plain = some (.ret (.bool true) [] .plain) := by kernel_rfl
theorem vAlive : dV 8 [] [] .plain = some (.ret (.bool true) [] .plain) := denA_of alive_den
end Go.Proofs
