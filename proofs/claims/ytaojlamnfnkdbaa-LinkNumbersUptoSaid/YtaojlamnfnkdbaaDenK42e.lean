/- Link: LinkNumbers of nothing. -/
import Derived.Test.YtaojlamnfnkdbaaDenKa
set_option linter.unusedSimpArgs false
set_option linter.unusedVariables false
set_option linter.unnecessarySimpa false
namespace Go.Proofs
open Go.Den
set_option maxRecDepth 100000
theorem num0 : den Try.prog polK ext0 300 4 [obs []] [] .plain = some (.ret (.bool true) [] .plain) := by kernel_rfl
theorem v4e : dK 4 [obs []] [] .plain = some (.ret (.bool true) [] .plain) := denA_of num0
end Go.Proofs
