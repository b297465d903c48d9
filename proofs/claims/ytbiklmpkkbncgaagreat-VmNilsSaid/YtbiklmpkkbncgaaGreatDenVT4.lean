/- Vm: VmNils: what is left of it, and that it is true. -/
import Derived.Test.YtbiklmpkkbncgaaGreatDenVT3
set_option linter.unusedSimpArgs false
set_option linter.unusedVariables false
set_option linter.unnecessarySimpa false
namespace Go.Proofs
open Go.Den
set_option maxRecDepth 100000
theorem nilsR (x : Int) : symK Tryz.prog polV tsV tabV 60 40 5 [.int .i64 x] [] .plain some =
  (cond (cond (decide (x < (0 : Int))) (true) (decide (x > (65536 : Int)))) (cond (((((true) == (cond (decide (x < (0 : Int))) (true) (decide (x > (65536 : Int)))))) == (true))) (some (.ret (.bool true) [] .plain)) (some (.ret (.bool false) [] .plain))) (cond (cond (decide (x > (0 : Int))) (true) (false)) (cond (cond (decide (IntKind.i64.wrap (x - (1 : Int)) > (0 : Int))) (true) (false)) (cond (cond (decide (IntKind.i64.wrap (IntKind.i64.wrap (x - (1 : Int)) - (1 : Int)) > (0 : Int))) (true) (false)) (cond (cond (decide (IntKind.i64.wrap (IntKind.i64.wrap (IntKind.i64.wrap (x - (1 : Int)) - (1 : Int)) - (1 : Int)) > (0 : Int))) (true) (false)) (cond (cond (decide (IntKind.i64.wrap (IntKind.i64.wrap (IntKind.i64.wrap (IntKind.i64.wrap (x - (1 : Int)) - (1 : Int)) - (1 : Int)) - (1 : Int)) > (0 : Int))) (false) (false)) none (cond (((((false) == (cond (decide (x < (0 : Int))) (true) (decide (x > (65536 : Int)))))) == (true))) (some (.ret (.bool true) [] .plain)) (some (.ret (.bool false) [] .plain)))) (cond (((((false) == (cond (decide (x < (0 : Int))) (true) (decide (x > (65536 : Int)))))) == (true))) (some (.ret (.bool true) [] .plain)) (some (.ret (.bool false) [] .plain)))) (cond (((((false) == (cond (decide (x < (0 : Int))) (true) (decide (x > (65536 : Int)))))) == (true))) (some (.ret (.bool true) [] .plain)) (some (.ret (.bool false) [] .plain)))) (cond (((((false) == (cond (decide (x < (0 : Int))) (true) (decide (x > (65536 : Int)))))) == (true))) (some (.ret (.bool true) [] .plain)) (some (.ret (.bool false) [] .plain)))) (cond (((((false) == (cond (decide (x < (0 : Int))) (true) (decide (x > (65536 : Int)))))) == (true))) (some (.ret (.bool true) [] .plain)) (some (.ret (.bool false) [] .plain))))) := by kernel_rfl
theorem nilsT (x : Int) : symK Tryz.prog polV tsV tabV 60 40 5 [.int .i64 x] [] .plain some = some (.ret (.bool true) [] .plain) := by
  rw [nilsR]
  generalize (cond (decide (x < (0 : Int))) (true) (decide (x > (65536 : Int)))) = b
  generalize decide (x > (0 : Int)) = b1
  generalize decide (IntKind.i64.wrap (x - (1 : Int)) > (0 : Int)) = b2
  generalize decide (IntKind.i64.wrap (IntKind.i64.wrap (x - (1 : Int)) - (1 : Int)) > (0 : Int)) = b3
  generalize decide (IntKind.i64.wrap (IntKind.i64.wrap (IntKind.i64.wrap (x - (1 : Int)) - (1 : Int)) - (1 : Int)) > (0 : Int)) = b4
  generalize decide (IntKind.i64.wrap (IntKind.i64.wrap (IntKind.i64.wrap (IntKind.i64.wrap (x - (1 : Int)) - (1 : Int)) - (1 : Int)) - (1 : Int)) > (0 : Int)) = b5
  cases b <;> cases b1 <;> cases b2 <;> cases b3 <;> cases b4 <;> cases b5 <;> rfl
theorem vNils (x : Int) : dV 5 [.int .i64 x] [] .plain = some (.ret (.bool true) [] .plain) := by
  obtain ⟨o, h1, h2⟩ := symK_le (ext := extV) tabV_le (fun _ _ => rfl) 40 _ _ _ _ _ _ (nilsT x)
  cases h1
  exact h2
end Go.Proofs
