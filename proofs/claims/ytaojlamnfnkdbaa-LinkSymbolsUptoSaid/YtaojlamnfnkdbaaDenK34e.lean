/- Link: LinkSymbols of nothing. -/
import Derived.Test.YtaojlamnfnkdbaaDenKa
set_option linter.unusedSimpArgs false
set_option linter.unusedVariables false
set_option linter.unnecessarySimpa false
namespace Go.Proofs
open Go.Den
set_option maxRecDepth 100000
theorem sym0 : den Try.prog polK ext0 300 3 [obs []] [] .plain = some (.ret (.bool true) [] .plain) := by kernel_rfl
theorem v3e : dK 3 [obs []] [] .plain = some (.ret (.bool true) [] .plain) := denA_of sym0
end Go.Proofs
