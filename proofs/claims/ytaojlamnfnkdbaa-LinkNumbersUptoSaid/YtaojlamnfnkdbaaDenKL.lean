/- Link: what does not hang on the input. -/
import Derived.Test.YtaojlamnfnkdbaaDenKa
set_option linter.unusedSimpArgs false
set_option linter.unusedVariables false
set_option linter.unnecessarySimpa false
namespace Go.Proofs
open Go.Den
set_option maxRecDepth 100000
theorem live_den : den Try.prog polK ext0 300 11 [] [] .plain = some (.ret (.bool true) [] .plain) := by kernel_rfl
theorem vLive : dK 11 [] [] .plain = some (.ret (.bool true) [] .plain) := denA_of live_den
end Go.Proofs
